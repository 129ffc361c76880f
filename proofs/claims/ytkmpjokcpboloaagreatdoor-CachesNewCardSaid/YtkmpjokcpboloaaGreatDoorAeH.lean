/-
  A part of the abstract evaluator's soundness: its operations agree with the model's. No conditions beyond the theorems' own.
-/
import Derived.Test.YtkmpjokcpboloaaGreatDoorAeG
set_option linter.unusedSimpArgs false
set_option linter.unusedVariables false
namespace Go.AE

section
variable {C : Ctx} {μ : Inj} {t : Tr V} {ρ : Operand → Value}

def ValS (C : Ctx) (μ : Inj) (s : Sem Value) (v : V) : Prop := ∃ c, VRel μ v c ∧ ∀ w, s.run C.P w = .ok c w

theorem pure_of {o : Oper} {v : V} {s : Sem Value} (hs : execOp ρ o = (do pure (.value (← s)))) (h : ValS C μ s v) : ∃ c, VRel μ v c ∧ Pure C ρ o c := by
  obtain ⟨c, hv, hr⟩ := h
  exact ⟨c, hv, fun w => by rw [hs]; simp [hr]⟩

theorem val_pureRun {s : Sem Value} {c : Value} {v : V} (h : pureRun C.P s = some c) (hv : ofValue 1 c = some v) : ValS C μ s v :=
  ⟨c, ofValue_rel μ _ _ _ hv, pureRun_run h⟩

theorem arith_rel {op : BinOp} {k : IntKind} {a b : Int} {v : V} (hs1 : op ≠ .shl) (hs2 : op ≠ .shr) {ty : TypeId} (h : arith C op k a b = some v) : ValS C μ (binOp op ty (.int k a) (.int k b)) v := by
  unfold arith at h
  split at h
  · cases h; exact ⟨_, rfl, fun w => by simp [binOp, Op.intArith, wrapF_eq]⟩
  · cases h; exact ⟨_, rfl, fun w => by simp [binOp, Op.intArith, wrapF_eq]⟩
  · cases h; exact ⟨_, rfl, fun w => by simp [binOp, Op.intArith, wrapF_eq]⟩
  · split at h
    · cases h
    · rename_i hz; rw [eqI_eq, decide_eq_false_iff_not] at hz; cases h
      exact ⟨_, rfl, fun w => by simp [binOp, Op.intDiv, hz, wrapF_eq]⟩
  · split at h
    · cases h
    · rename_i hz; rw [eqI_eq, decide_eq_false_iff_not] at hz; cases h
      exact ⟨_, rfl, fun w => by simp [binOp, Op.intDiv, hz]⟩
  · cases h; exact ⟨_, rfl, fun w => by simp [binOp, Op.intCmp, eqI_eq, some']; rfl⟩
  · cases h; exact ⟨_, rfl, fun w => by simp [binOp, Op.intCmp, eqI_eq, some', bne]; rfl⟩
  · cases h; exact ⟨_, rfl, fun w => by simp [binOp, Op.intCmp, ltI_eq, some']⟩
  · cases h; exact ⟨_, rfl, fun w => by simp [binOp, Op.intCmp, ltI_eq, some', ← Int.not_lt]⟩
  · cases h; exact ⟨_, rfl, fun w => by simp [binOp, Op.intCmp, ltI_eq, some']⟩
  · cases h; exact ⟨_, rfl, fun w => by simp [binOp, Op.intCmp, ltI_eq, some', ← Int.not_lt]⟩
  · rename_i op' h1 h2 h3 h4 h5 h6 h7 h8 h9 h10 h11
    split at h
    · rename_i c hc
      have : binOp op ty (.int k a) (.int k b) = Op.intBits op k a b := by
        cases op <;> first | rfl | (simp [binOp]; done) | (exfalso; simp_all; done) | simp_all [binOp]
      rw [this]; exact val_pureRun hc h
    · cases h

theorem intV_rel {op : BinOp} {k k' : IntKind} {a b : Int} {v : V} {ty : TypeId} (h : intV C op k a k' b = some v) : ValS C μ (binOp op ty (.int k a) (.int k' b)) v := by
  have sh : ∀ op, (op = .shl ∨ op = .shr) → shiftV op k a b = some v → ValS C μ (binOp op ty (.int k a) (.int k' b)) v := by
    intro op hop h
    unfold shiftV at h
    split at h
    · cases h
    · rename_i n hn
      have hb := natI_eq hn
      subst hb
      have hnn : ¬ ((n : Int) < 0) := by omega
      rcases hop with rfl | rfl
      · cases h; exact ⟨_, rfl, fun w => by simp only [binOp, Op.shift, if_neg hnn, wrapF_eq, Int.toNat_natCast]; rfl⟩
      · cases h; exact ⟨_, rfl, fun w => by simp only [binOp, Op.shift, if_neg hnn, Int.toNat_natCast]; rfl⟩
  unfold intV at h
  split at h
  · exact sh _ (.inl rfl) h
  · exact sh _ (.inr rfl) h
  · rename_i h1 h2
    split at h
    · rename_i hk; rw [eqK_eq, decide_eq_true_eq] at hk; subst hk; exact arith_rel h1 h2 h
    · cases h

theorem strV_rel {op : BinOp} {a b : ByteArray} {v : V} {ty : TypeId} (h : strV C op a b = some v) : ValS C μ (binOp op ty (.string a) (.string b)) v := by
  have hb : binOp op ty (.string a) (.string b) = Op.stringOp op a b := by cases op <;> rfl
  rw [hb]
  unfold strV at h
  split at h
  · split at h
    · rename_i hs; rw [bleN, decide_eq_true_eq] at hs; cases h
      refine ⟨_, rfl, fun w => ?_⟩
      rw [run_string_add_sum w a b hs]
      congr 2
    · cases h
  · cases h; exact ⟨_, rfl, fun w => by simp [Op.stringOp, some', eqBytes_eq, Lib.toList_data]; (rw [Bool.eq_iff_iff]; simp)⟩
  · cases h; exact ⟨_, rfl, fun w => by simp [Op.stringOp, some', eqBytes_eq, Lib.toList_data]; (rw [Bool.eq_iff_iff]; simp)⟩
  · split at h
    · rename_i c hc; exact val_pureRun hc h
    · cases h

theorem eqGuard_int {op : BinOp} {ty : TypeId} {x y : Operand} {k k' : IntKind} {a b : Int} (w : World) : (eqGuard op ty x y (.int k a) (.int k' b)).run C.P w = .ok () w :=
  run_guard_other w (.inl (by simp)) (by simp)

theorem binV_rel {op : BinOp} {ty : TypeId} {x y : Operand} {a b : V} {c d : Value} {v : V} (hx : VRel μ a c) (hy : VRel μ b d) (h : binV C op ty a b = some v) :
    ValS C μ (do eqGuard op ty x y c d; binOp op ty c d) v := by
  unfold binV at h
  split at h
  · split at h
    · cases hx; cases hy
      obtain ⟨e, he, hr⟩ := intV_rel (μ := μ) (ty := ty) h
      exact ⟨e, he, fun w => by simp only [Sem.run_bind, eqGuard_int, Result.andThen_ok, hr]⟩
    · cases h
  · split at h
    · cases hx; cases hy
      obtain ⟨e, he, hr⟩ := strV_rel (μ := μ) (ty := ty) h
      exact ⟨e, he, fun w => by simp only [Sem.run_bind, run_guard_other (C := C) (a := .string _) (b := .string _) w (.inl (by simp)) (by simp), Result.andThen_ok, hr]⟩
    · cases h
  · unfold cmpV at h
    split at h
    · split at h
      · rename_i r hr; cases h
        refine ⟨_, rfl, fun w => ?_⟩
        obtain ⟨h1, h2, h3, h4, h5, h6⟩ := eqV_rel hx hy hr w
        exact bin_eq w (.inl rfl) (h2 _ _ _) h1 h3 h4 h5 h6
      · cases h
    · split at h
      · rename_i r hr; cases h
        refine ⟨_, rfl, fun w => ?_⟩
        obtain ⟨h1, h2, h3, h4, h5, h6⟩ := eqV_rel hx hy hr w
        simpa using bin_eq w (.inr rfl) (h2 _ _ _) h1 h3 h4 h5 h6
      · cases h
    · cases h

theorem opBin_rel {op : BinOp} {ty : TypeId} {x y : Operand} {v : V} (hr : OR C μ t ρ) (h : opBin C op ty x y (opd C t x) (opd C t y) = some v) :
    ValS C μ (do eqGuard op ty x y (ρ x) (ρ y); binOp op ty (ρ x) (ρ y)) v := by
  unfold opBin at h
  split at h
  · cases h
  · rename_i hx
    split at h
    · rename_i hy
      have ex : ρ x = .nilIface := hr _ _ hx
      have ey : ρ y = .nilIface := hr _ _ hy
      rw [ex, ey]
      unfold nilEq at h
      split at h
      · rename_i ms hc hu
        have hu' : C.P.underlying ty = some (.interface ms) := hu
        have hg : ∀ op w, (eqGuard op ty x y .nilIface .nilIface).run C.P w = .ok () w := by
          intro op w
          have hc' : (∃ v, x = .const v) ∨ (∃ v, y = .const v) := by
            rw [Bool.or_eq_true] at hc
            rcases hc with hc | hc
            · left; clear hx ex; cases x <;> first | exact ⟨_, rfl⟩ | (simp [isConst] at hc)
            · right; clear hy ey; cases y <;> first | exact ⟨_, rfl⟩ | (simp [isConst] at hc)
          unfold eqGuard
          rcases hc' with ⟨v, rfl⟩ | ⟨v, rfl⟩
          · cases op <;> rfl
          · clear hx ex
            cases op <;> first | rfl | (cases x <;> rfl)
        split at h
        · cases h; exact ⟨_, rfl, fun w => by simp only [Sem.run_bind, hg, Result.andThen_ok, binOp]; rw [equal1, Op.equalIn]; simp only [Sem.run_bind, run_underlying hu', Result.andThen_ok, Sem.run_pure]⟩
        · cases h; exact ⟨_, rfl, fun w => by simp only [Sem.run_bind, hg, Result.andThen_ok, binOp]; rw [equal1, Op.equalIn]; simp only [Sem.run_bind, run_underlying hu', Result.andThen_ok, Sem.run_pure]; rfl⟩
        · cases h
      · cases h
    · rename_i b hb1 hb2
      exact binV_rel (hr _ _ hx) (hr _ _ hb2) h
    · cases h
  · rename_i a ha hx
    split at h
    · cases h
    · rename_i b hy
      exact binV_rel (hr _ _ hx) (hr _ _ hy) h
end
end Go.AE
