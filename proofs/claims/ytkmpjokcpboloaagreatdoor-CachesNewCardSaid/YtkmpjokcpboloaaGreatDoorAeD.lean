/-
  A part of the abstract evaluator's soundness: its operations agree with the model's. No conditions beyond the theorems' own.
-/
import Derived.Test.YtkmpjokcpboloaaGreatDoorAeC
import Derived.IntWalk
namespace Go.AE

section basics
variable {P : Program} {w : World}

theorem run_underlying' {C : Ctx} {t : TypeId} {d : TypeDesc} (h : und C t = some d) (w : World) : (underlying t).run C.P w = .ok d w := run_underlying h w
theorem run_info {t : TypeId} {i : TypeInfo} (h : P.info? t = some i) : (typeInfo t).run P w = .ok i w := by simp [typeInfo, h]
theorem szOf_spec {C : Ctx} {t : TypeId} {n : Nat} (h : szOf C t = some n) : ∃ i, C.P.info? t = some i ∧ i.size = n := by
  unfold szOf at h
  split at h
  · rename_i i hi; cases h; exact ⟨i, hi, rfl⟩
  · cases h
theorem run_size {C : Ctx} {t : TypeId} {n : Nat} (h : szOf C t = some n) : (sizeOf t).run C.P w = .ok n w := by
  obtain ⟨i, hi, rfl⟩ := szOf_spec h
  simp [sizeOf, run_info hi]
theorem zeroV_spec {C : Ctx} {t : TypeId} {v : V} (h : zeroV C t = some v) : ∃ i z, C.P.info? t = some i ∧ i.zero = some z ∧ (∀ μ, VRel μ v z) := by
  unfold zeroV at h
  split at h
  · rename_i i hi
    split at h
    · rename_i z hz; exact ⟨i, z, hi, hz, fun μ => ofValue_rel μ _ _ _ h⟩
    · cases h
  · cases h
theorem run_zero {C : Ctx} {t : TypeId} {i : TypeInfo} {z : Value} (hi : C.P.info? t = some i) (hz : i.zero = some z) : (zeroValue t).run C.P w = .ok z w := by
  simp [zeroValue, run_info hi, hz]

theorem isAgg_row {C : Ctx} {t : TypeId} {n : Nat} (h : shp C t = .row n) : (isAgg t).run C.P w = .ok true w ∧ szOf C t = some n := by
  unfold shp at h
  split at h
  · rename_i hu
    split at h
    · rename_i m hm; cases h; exact ⟨by simp [isAgg, run_underlying' hu], hm⟩
    · cases h
  · rename_i hu
    split at h
    · rename_i m hm; cases h; exact ⟨by simp [isAgg, run_underlying' hu], hm⟩
    · cases h
  · cases h
  · cases h
theorem isAgg_cell {C : Ctx} {t : TypeId} (h : shp C t = .cell) : (isAgg t).run C.P w = .ok false w := by
  unfold shp at h
  split at h
  · split at h <;> cases h
  · split at h <;> cases h
  · rename_i d h1 h2 hu
    simp only [isAgg]
    rw [Sem.run_bind, run_underlying' hu]
    cases d <;> first | rfl | (rename_i x; exact (h1 x rfl).elim) | (rename_i x y; exact (h2 x y rfl).elim)
  · cases h

theorem run_part {C : Ctx} {μ : Inj} {t : TypeId} {cs : List V} {l : List Value} {off : Nat} {v : V} (hr : VRels μ cs l) (h : partL C t cs off = some v) :
    ∃ c, VRel μ v c ∧ ∀ w, (part t ⟨l⟩ off).run C.P w = .ok c w := by
  unfold partL at h
  split at h
  · rename_i n hn
    split at h
    · rename_i x hx; cases h
      obtain ⟨h1, h2⟩ := VRels.take n (hr.drop off) hx
      refine ⟨.agg ⟨(l.drop off).take n⟩, ⟨_, rfl, h1⟩, fun w => ?_⟩
      obtain ⟨ha, hs⟩ := isAgg_row (w := w) hn
      simp only [part, Sem.run_bind, ha, Result.andThen_ok, if_true, run_size hs, Sem.run_pure]
      congr 2
      apply Array.ext'
      simp [List.extract_eq_take_drop]
    · cases h
  · rename_i hn
    obtain ⟨x, hx, hv⟩ := hr.get off h
    refine ⟨x, hv, fun w => ?_⟩
    simp only [part, Sem.run_bind, isAgg_cell hn, Result.andThen_ok]
    simp [hx]
  · cases h
end basics

/-! integers -/
theorem beqN (a b : Nat) : Nat.beq a b = decide (a = b) := by rw [Bool.eq_iff_iff]; simp [Nat.beq_eq]
theorem bltN (a b : Nat) : Nat.blt a b = decide (a < b) := by rw [Bool.eq_iff_iff]; simp [Nat.blt_eq]
theorem bleN (a b : Nat) : Nat.ble a b = decide (a ≤ b) := by rw [Bool.eq_iff_iff]; simp
theorem eqI_eq (a b : Int) : eqI a b = decide (a = b) := by
  cases a <;> cases b <;> simp only [eqI, beqN, Int.ofNat.injEq, Int.negSucc.injEq, reduceCtorEq, decide_false]
theorem ltI_eq (a b : Int) : ltI a b = decide (a < b) := by
  cases a <;> cases b <;> simp only [ltI, bltN]
  · rw [Bool.eq_iff_iff]; simp only [decide_eq_true_eq, Int.ofNat_eq_natCast]; omega
  · rw [Bool.eq_iff_iff]; simp only [decide_eq_true_eq, Int.ofNat_eq_natCast, Bool.false_eq_true, false_iff]; omega
  · rw [Bool.eq_iff_iff]; simp only [decide_eq_true_eq, Int.ofNat_eq_natCast, true_iff]; omega
  · rw [Bool.eq_iff_iff]; simp only [decide_eq_true_eq]; omega
theorem eqK_eq (a b : IntKind) : eqK a b = decide (a = b) := by
  cases a <;> cases b <;> rfl
theorem eqB_eq (a b : Bool) : eqB a b = (a == b) := by cases a <;> cases b <;> rfl
theorem natI_eq {i : Int} {n : Nat} (h : natI i = some n) : i = n := by cases i <;> simp [natI] at h; subst h; rfl
theorem wrap_i64 {n : Int} (h1 : -9223372036854775808 ≤ n) (h2 : n ≤ 9223372036854775807) : IntKind.i64.wrap n = n := by
  exact IntWalk.i64_in n ⟨by omega, by omega⟩
theorem wrap_u {k : IntKind} (hs : k.signed = false) (n : Int) : k.wrap n = n % (2 ^ k.bits : Int) := by
  simp only [IntKind.wrap, hs, Bool.false_and, Bool.false_eq_true, if_false]
theorem wrapF_eq (k : IntKind) (n : Int) : wrapF k n = k.wrap n := by
  cases n with
  | ofNat m =>
    cases k <;> simp only [wrapF]
    · split
      · rename_i h; rw [bleN, decide_eq_true_eq] at h
        rw [show Int.ofNat m = (m : Int) from rfl, wrap_i64 (by omega) (by omega)]
      · rfl
    all_goals
      rw [wrap_u rfl]
      simp only [IntKind.bits, Int.reducePow]
      rfl
  | negSucc m =>
    cases k <;> simp only [wrapF]
    split
    · rename_i h; rw [bleN, decide_eq_true_eq] at h
      rw [wrap_i64 (by omega) (by omega)]
    · rfl
end Go.AE
