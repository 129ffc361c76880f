/-
  A part of the abstract evaluator's soundness: its operations agree with the model's. No conditions beyond the theorems' own.
-/
import Derived.Test.YtkmpjokcpboloaaGreatDoorAeF
set_option linter.unusedSimpArgs false
set_option linter.unusedVariables false
namespace Go.AE

section
variable {C : Ctx} {μ : Inj} {t : Tr V} {ρ : Operand → Value}

/-- the operation makes this value, in every world -/
def Pure (C : Ctx) (ρ : Operand → Value) (o : Oper) (c : Value) : Prop := ∀ w, (execOp ρ o).run C.P w = .ok (.value c) w

theorem pureRun_run {α : Type} {P : Program} : ∀ {s : Sem α} {a : α}, pureRun P s = some a → ∀ w, s.run P w = .ok a w
  | .pure a, b, h, w => by simp only [pureRun, Option.some.injEq] at h; subst h; rfl
  | .program k, b, h, w => by simp only [pureRun] at h; exact pureRun_run h w
  | .load .., _, h, _ => by simp [pureRun] at h
  | .store .., _, h, _ => by simp [pureRun] at h
  | .new .., _, h, _ => by simp [pureRun] at h
  | .shape .., _, h, _ => by simp [pureRun] at h
  | .freeze .., _, h, _ => by simp [pureRun] at h
  | .frozen .., _, h, _ => by simp [pureRun] at h
  | .getObj .., _, h, _ => by simp [pureRun] at h
  | .setObj .., _, h, _ => by simp [pureRun] at h
  | .choose .., _, h, _ => by simp [pureRun] at h
  | .sys .., _, h, _ => by simp [pureRun] at h
  | .mark .., _, h, _ => by simp [pureRun] at h
  | .halt .., _, h, _ => by simp [pureRun] at h

/-! equality at a struct or an array -/
theorem kinds_spec {P : Program} {ty : TypeId} {ks : List Kd} (h : kinds P ty = some ks) : ∃ l, flat P 8 ty 0 = some l ∧ inRow l 0 = some ks := by
  unfold kinds at h
  split at h
  · rename_i l hl; exact ⟨l, hl, h⟩
  · cases h

theorem run_equal_agg {P : Program} {ty : TypeId} {ks : List Kd} (h : kinds P ty = some ks) (hag : AggT P ty) {xs ys : List V} {cx cy : List Value} (hx : VRels μ xs cx) (hy : VRels μ ys cy) {r : Bool}
    (he : eqCells ks xs ys = some r) (w : World) : (Op.equal ty (.agg ⟨cx⟩) (.agg ⟨cy⟩)).run P w = .ok r w := by
  obtain ⟨l, hl, hr⟩ := kinds_spec h
  refine equal_flat 8 ty 0 l hl 10000 (by omega) hx hy _ _ (.inl ⟨hag, _, rfl, fun i _ => by simp⟩) (.inl ⟨hag, _, rfl, fun i _ => by simp⟩) r ?_ w
  exact inRow_eqAt xs ys l 0 ks r hr (by simpa using he)

theorem eqAgg_spec {P : Program} {ty : TypeId} {xs ys : List V} {r : Bool} (h : eqAgg P ty xs ys = some r) : ∃ ks, kinds P ty = some ks ∧ P.eqGuardType P.depth ty = false ∧ eqCells ks xs ys = some r := by
  unfold eqAgg at h
  split at h
  · rename_i ks hk hg; exact ⟨ks, hk, hg, h⟩
  · cases h

theorem run_guard_other {op : BinOp} {ty : TypeId} {x y : Operand} {a b : Value} (w : World) (h1 : a ≠ .nilIface ∨ b ≠ .nilIface) (h2 : ∀ p q, ¬ (a = .agg p ∧ b = .agg q)) :
    (eqGuard op ty x y a b).run C.P w = .ok () w := by
  unfold eqGuard
  cases op <;> try rfl
  all_goals
    cases a <;> cases b <;> first
      | rfl
      | (exfalso; exact h2 _ _ ⟨rfl, rfl⟩)
      | (exfalso; rcases h1 with h | h <;> exact h rfl)

theorem equal1 (ty : TypeId) (a b : Value) : Op.equal ty a b = Op.equalIn (9999 + 1) ty a b := rfl
theorem run_eq1 {ty : TypeId} {d : TypeDesc} (hu : C.P.underlying ty = some d) (a b : Value) (w : World) {r : Bool}
    (h : ∀ w, (Op.equalIn (9999 + 1) ty a b).run C.P w = .ok r w) : (Op.equal ty a b).run C.P w = .ok r w := by rw [equal1]; exact h w

theorem bin_eq {op : BinOp} {ty : TypeId} {x y : Operand} {a b : Value} {r : Bool} (w : World) (hop : op = .eql ∨ op = .neq) (hg : (eqGuard op ty x y a b).run C.P w = .ok () w)
    (he : (Op.equal ty a b).run C.P w = .ok r w) (hni : ∀ k n, a ≠ .int k n) (hnf : ∀ k n, a ≠ .float k n) (hnc : ∀ k n m, a ≠ .complex k n m) (hns : ∀ s, a ≠ .string s) :
    (do eqGuard op ty x y a b; binOp op ty a b : Sem Value).run C.P w = .ok (.bool (if op = .eql then r else !r)) w := by
  simp only [Sem.run_bind, hg, Result.andThen_ok]
  have he' := he
  rcases hop with rfl | rfl
  · cases a <;> first
      | (exfalso; exact hni _ _ rfl)
      | (exfalso; exact hnf _ _ rfl)
      | (exfalso; exact hnc _ _ _ rfl)
      | (exfalso; exact hns _ rfl)
      | (cases b <;> simp [binOp, he'])
  · cases a <;> first
      | (exfalso; exact hni _ _ rfl)
      | (exfalso; exact hnf _ _ rfl)
      | (exfalso; exact hnc _ _ _ rfl)
      | (exfalso; exact hns _ rfl)
      | (cases b <;> simp [binOp, he'])

theorem run_sameAddr_block (a b : Addr) (h : a.block = b.block) (w : World) : (sameAddr a b).run C.P w = .ok (a == b) w := by simp [sameAddr, h]

theorem eqV_rel {ty : TypeId} {x y : V} {a b : Value} {r : Bool} (hx : VRel μ x a) (hy : VRel μ y b) (h : eqV C ty x y = some r) (w : World) :
    (Op.equal ty a b).run C.P w = .ok r w ∧ (∀ op x y, (eqGuard op ty x y a b).run C.P w = .ok () w) ∧ (∀ k n, a ≠ .int k n) ∧ (∀ k n, a ≠ .float k n) ∧ (∀ k n m, a ≠ .complex k n m) ∧ (∀ s, a ≠ .string s) := by
  unfold eqV at h
  split at h
  · rename_i hu
    split at h <;> cases h
    cases hx; cases hy
    refine ⟨?_, fun op x y => run_guard_other w (.inl (by simp)) (by simp), by simp, by simp, by simp, by simp⟩
    have := run_equalIn_bool' (P := C.P) w 9999 ty
    simp only [Op.equal, Op.maxDepth]
    rw [this _ _ hu, eqB_eq]
  · rename_i hu
    split at h
    · obtain ⟨ks, hk, hg, he⟩ := eqAgg_spec h
      obtain ⟨l1, rfl, h1⟩ := hx; obtain ⟨l2, rfl, h2⟩ := hy
      exact ⟨run_equal_agg hk (.inl ⟨_, hu⟩) h1 h2 he w, fun op x y => run_eqGuard_agg w op ty x y _ _ hg, by simp, by simp, by simp, by simp⟩
    · cases h
  · rename_i hu
    split at h
    · obtain ⟨ks, hk, hg, he⟩ := eqAgg_spec h
      obtain ⟨l1, rfl, h1⟩ := hx; obtain ⟨l2, rfl, h2⟩ := hy
      exact ⟨run_equal_agg hk (.inr ⟨_, _, hu⟩) h1 h2 he w, fun op x y => run_eqGuard_agg w op ty x y _ _ hg, by simp, by simp, by simp, by simp⟩
    · cases h
  · rename_i e hu
    have hu' : C.P.underlying ty = some (.pointer e) := hu
    split at h
    · cases h; cases hx; cases hy
      exact ⟨by rw [equal1, Op.equalIn]; simp [run_underlying hu'], fun op x y => run_guard_other w (.inl (by simp)) (by simp), by simp, by simp, by simp, by simp⟩
    · cases h; cases hx; obtain ⟨l, hl, rfl⟩ := hy
      exact ⟨by rw [equal1, Op.equalIn]; simp [run_underlying hu'], fun op x y => run_guard_other w (.inl (by simp)) (by simp), by simp, by simp, by simp, by simp⟩
    · cases h; cases hy; obtain ⟨l, hl, rfl⟩ := hx
      exact ⟨by rw [equal1, Op.equalIn]; simp [run_underlying hu'], fun op x y => run_guard_other w (.inl (by simp)) (by simp), by simp, by simp, by simp, by simp⟩
    · split at h
      · rename_i n hs hb
        rw [Pos.beq_eq, decide_eq_true_eq] at hb; subst hb
        obtain ⟨l, hl, rfl⟩ := hx; obtain ⟨m, hm, rfl⟩ := hy
        rw [hl] at hm; cases hm; cases h
        refine ⟨?_, fun op x y => run_guard_other w (.inl (by simp)) (by simp), by simp, by simp, by simp, by simp⟩
        rw [equal1, Op.equalIn]
        simp only [Sem.run_bind, run_underlying hu', Result.andThen_ok, run_size hs, ne_eq, Nat.add_eq_zero_iff, Nat.succ_ne_self, and_false, not_false_eq_true, if_true]
        rw [if_pos (by omega), run_sameAddr_block (C := C) _ _ (by rfl)]
        congr 1
        rw [beqN, Bool.eq_iff_iff]
        simp
      · cases h
    · cases h
  all_goals try (cases h; done)
  · rename_i e hu
    have hu' : C.P.underlying ty = some (.slice e) := hu
    split at h <;> cases h
    · cases hx; cases hy
      exact ⟨by rw [equal1, Op.equalIn]; simp [run_underlying hu'], fun op x y => run_guard_other w (.inl (by simp)) (by simp), by simp, by simp, by simp, by simp⟩
    · cases hx; obtain ⟨l, m, hl, rfl, _⟩ := hy
      exact ⟨by rw [equal1, Op.equalIn]; simp [run_underlying hu'], fun op x y => run_guard_other w (.inl (by simp)) (by simp), by simp, by simp, by simp, by simp⟩
    · cases hy; obtain ⟨l, m, hl, rfl, _⟩ := hx
      exact ⟨by rw [equal1, Op.equalIn]; simp [run_underlying hu'], fun op x y => run_guard_other w (.inl (by simp)) (by simp), by simp, by simp, by simp, by simp⟩
  · rename_i k e hu
    have hu' : C.P.underlying ty = some (.map k e) := hu
    split at h <;> cases h
    · cases hx; cases hy
      exact ⟨by rw [equal1, Op.equalIn]; simp [run_underlying hu'], fun op x y => run_guard_other w (.inl (by simp)) (by simp), by simp, by simp, by simp, by simp⟩
    · cases hx; obtain ⟨l, hl, rfl⟩ := hy
      exact ⟨by rw [equal1, Op.equalIn]; simp [run_underlying hu'], fun op x y => run_guard_other w (.inl (by simp)) (by simp), by simp, by simp, by simp, by simp⟩
    · cases hy; obtain ⟨l, hl, rfl⟩ := hx
      exact ⟨by rw [equal1, Op.equalIn]; simp [run_underlying hu'], fun op x y => run_guard_other w (.inl (by simp)) (by simp), by simp, by simp, by simp, by simp⟩
  · rename_i k e hu
    have hu' : C.P.underlying ty = some (.chan k e) := hu
    split at h <;> cases h
    · cases hx; cases hy
      exact ⟨by rw [equal1, Op.equalIn]; simp [run_underlying hu'], fun op x y => run_guard_other w (.inl (by simp)) (by simp), by simp, by simp, by simp, by simp⟩
    · cases hx; obtain ⟨l, hl, rfl⟩ := hy
      exact ⟨by rw [equal1, Op.equalIn]; simp [run_underlying hu'], fun op x y => run_guard_other w (.inl (by simp)) (by simp), by simp, by simp, by simp, by simp⟩
    · cases hy; obtain ⟨l, hl, rfl⟩ := hx
      exact ⟨by rw [equal1, Op.equalIn]; simp [run_underlying hu'], fun op x y => run_guard_other w (.inl (by simp)) (by simp), by simp, by simp, by simp, by simp⟩
  · rename_i p q s hu
    have hu' : C.P.underlying ty = some (.func p q s) := hu
    split at h <;> cases h
    · cases hx; cases hy
      exact ⟨by rw [equal1, Op.equalIn]; simp [run_underlying hu'], fun op x y => run_guard_other w (.inl (by simp)) (by simp), by simp, by simp, by simp, by simp⟩
    · cases hx; obtain ⟨a', b', rfl, _⟩ := hy
      exact ⟨by rw [equal1, Op.equalIn]; simp [run_underlying hu'], fun op x y => run_guard_other w (.inl (by simp)) (by simp), by simp, by simp, by simp, by simp⟩
    · cases hy; obtain ⟨a', b', rfl, _⟩ := hx
      exact ⟨by rw [equal1, Op.equalIn]; simp [run_underlying hu'], fun op x y => run_guard_other w (.inl (by simp)) (by simp), by simp, by simp, by simp, by simp⟩
  · rename_i ms hu
    have hu' : C.P.underlying ty = some (.interface ms) := hu
    split at h
    · cases h; cases hx; obtain ⟨c', rfl, _⟩ := hy
      exact ⟨by rw [equal1, Op.equalIn]; simp [run_underlying hu'], fun op x y => run_guard_other w (.inr (by simp)) (by simp), by simp, by simp, by simp, by simp⟩
    · cases h; cases hy; obtain ⟨c', rfl, _⟩ := hx
      exact ⟨by rw [equal1, Op.equalIn]; simp [run_underlying hu'], fun op x y => run_guard_other w (.inl (by simp)) (by simp), by simp, by simp, by simp, by simp⟩
    · rename_i t1 v1 t2 v2
      obtain ⟨c1, rfl, h1⟩ := hx; obtain ⟨c2, rfl, h2⟩ := hy
      split at h
      · rename_i hb; rw [beqN, decide_eq_false_iff_not] at hb; cases h
        exact ⟨by rw [equal1, Op.equalIn]; simp [run_underlying hu', hb], fun op x y => run_guard_other w (.inl (by simp)) (by simp), by simp, by simp, by simp, by simp⟩
      · rename_i hb; rw [beqN, decide_eq_true_eq] at hb; subst hb
        split at h
        · rename_i kk i hut hit
          have hut' : C.P.underlying t1 = some (.int kk) := hut
          have hit' : C.P.info? t1 = some i := hit
          split at h
          · rename_i k x k' y hc
            simp only [eqCell] at h
            split at h
            · rename_i hkk; rw [eqK_eq, decide_eq_true_eq] at hkk; subst hkk
              cases h; cases h1; cases h2
              refine ⟨?_, fun op x y => run_guard_other w (.inl (by simp)) (by simp), by simp, by simp, by simp, by simp⟩
              rw [equal1, Op.equalIn]
              simp only [Sem.run_bind, run_underlying hu', Result.andThen_ok, ne_eq, not_true_eq_false, if_false, run_info hit', hc, Bool.not_true, Bool.false_eq_true]
              rw [run_equalIn_int w 9998 t1 _ _ _ _ hut', eqI_eq]
              rfl
            · cases h
          · cases h
        · cases h
    · cases h
end
end Go.AE
