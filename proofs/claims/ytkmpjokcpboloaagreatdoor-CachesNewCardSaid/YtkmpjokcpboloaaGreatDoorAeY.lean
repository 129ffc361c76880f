/-
  A part of the abstract evaluator's soundness: its operations agree with the model's. No conditions beyond the theorems' own.
-/
import Derived.Test.YtkmpjokcpboloaaGreatDoorAeX
set_option linter.unusedSimpArgs false
set_option linter.unusedVariables false
namespace Go.AE

/-! what is asked of a program's tables -/
def ExtOk (C : Ctx) (f : FuncId) (x : Ext) : Prop := ∃ fn, C.P.funcs[f]? = some fn ∧ (fn.name == "runtime.NumGoroutine") = false ∧ fn.body = none ∧ Extern.findNext fn = none ∧
  match x with
  | .noEscape => Extern.find fn = some Extern.AbiNoEscape.same
  | .makeNoZero e => Extern.find fn = some (Extern.BytealgMakeNoZero.makeNoZero fn.params fn.resultTypes) ∧ ∃ rt, fn.resultTypes[0]? = some rt ∧ C.P.underlying rt = some (.slice e)
  | .indexByte => Extern.find fn = some Extern.BytealgIndexByte.indexByte
  | .count => Extern.find fn = some Extern.BytealgCount.count

structure CtxOk (C : Ctx) : Prop where
  fn : ∀ f fn, C.fn f = some fn → C.P.funcs[f]? = some fn ∧ (fn.name == "runtime.NumGoroutine") = false
  mixed : C.P.follows .mixedOrders = true
  ext : ∀ f x, C.ext f = some x → ExtOk C f x
  hook : ∀ f g, C.hook f = some g → ∀ (G : Gp), G.C = C → ∀ (μ : Inj) (h : H) (w : World) (vs : List V) (args : List Value), Sim G μ h w → VRels μ vs args → ∀ fr cs, FrOk fr →
    (g vs h).any (Acts G fr cs h.nx μ w (callFunc f ⟨args⟩))

section
variable {G : Gp} {μ : Inj} {h : H} {w : World} {t : Tr V} {ρ : Operand → Value}

/-! the results of a function -/
def resSem (tmps : Array Value) : ResultVar → Sem Value
  | .tmp t => pure (tmps.getD t Go.undef)
  | .cell a t => do loadVar t (← asAddr (tmps.getD a Go.undef))
theorem results_eq (fn : Func) (tmps : Array Value) : Go.results fn tmps = (do let vs ← fn.results.toList.mapM (resSem tmps); pure (if h : (⟨vs⟩ : Array Value).size = 1 then (⟨vs⟩ : Array Value)[0] else .tuple ⟨vs⟩)) := by
  unfold Go.results
  rw [Array.mapM_eq_mapM_toList]
  have : (fun (r : ResultVar) => match r with | .tmp t => (pure (tmps.getD t Go.undef) : Sem Value) | .cell a t => do loadVar t (← asAddr (tmps.getD a Go.undef))) = resSem tmps := by
    funext r; cases r <;> rfl
  rw [← this, map_eq_pure_bind, bind_assoc]
  simp only [pure_bind]
  rfl

theorem results_rel (s : Sim G μ h w) {n : Nat} {tmps : Array Value} (ht : TRel μ n t tmps) : ∀ (rs : List ResultVar) (vs : List V), AE.results G.C t h rs = some vs →
    ∃ cs, VRels μ vs cs ∧ (rs.mapM (resSem tmps)).run G.C.P w = .ok cs w
  | [], vs, hv => by simp only [AE.results, Option.some.injEq] at hv; subst hv; exact ⟨[], rfl, by simp⟩
  | .tmp i :: rs, vs, hv => by
    simp only [AE.results] at hv
    split at hv
    · rename_i vs' hvs; cases hv
      obtain ⟨cs, hcs, hr⟩ := results_rel s ht rs vs' hvs
      exact ⟨_ :: cs, VRels.cons (ht.2 i) hcs, by rw [List.mapM_cons]; simp only [resSem, pure_bind, Sem.run_bind, hr, Result.andThen_ok]; rfl⟩
    · cases hv
  | .cell a ty :: rs, vs, hv => by
    simp only [AE.results] at hv
    split at hv
    · rename_i b off hg
      split at hv
      · rename_i v vs' hl hvs; cases hv
        obtain ⟨cs, hcs, hr⟩ := results_rel s ht rs vs' hvs
        have hp := ht.2 a
        rw [hg] at hp
        obtain ⟨d, hd, ad, he, hrun⟩ := loadL_rel s hp hl
        refine ⟨d :: cs, VRels.cons hd hcs, ?_⟩
        rw [List.mapM_cons]
        simp only [resSem, he, asAddr, pure_bind, Sem.run_bind, hrun, Result.andThen_ok, hr]
        rfl
      · cases hv
    · cases hv

theorem retV_rel {vs : List V} {cs : List Value} (hr : VRels μ vs cs) : VRel μ (retV vs) (if h : (⟨cs⟩ : Array Value).size = 1 then (⟨cs⟩ : Array Value)[0] else .tuple ⟨cs⟩) := by
  unfold retV
  split
  · obtain ⟨c, cs', rfl, hc, hn⟩ := hr
    cases hn
    simpa using hc
  · rename_i hne
    have : cs.length ≠ 1 := by
      intro e
      rw [← hr.length] at e
      cases vs with
      | nil => simp at e
      | cons v vs => cases vs with
        | nil => exact hne v rfl
        | cons _ _ => simp at e
    simp only [List.size_toArray, this, dif_neg, not_false_iff]
    exact ⟨cs, rfl, hr⟩

theorem unwind_rel {b : Frame} {cs : List Frame} {todo : List Item} {tmps : Array Value} : ∀ (ds : List D) (l : List Deferred) (h h' : H) (w : World), Sim G μ h w → DRels μ ds l → runDefers ds h = some h' →
    ∃ w', Sim G μ h' w' ∧ h.nx = h'.nx ∧ Steps G.C.P (lone { b.atR ⟨tmps, l⟩ todo with mode := .returning } cs w) (lone { b.atR ⟨tmps, []⟩ todo with mode := .returning } cs w')
  | [], l, h, h', w, s, hd, hr => by
    cases hd; simp only [runDefers, Option.some.injEq] at hr; subst hr
    exact ⟨w, s, rfl, .refl _ _⟩
  | .round :: ds, l, h, h', w, s, hd, hr => by simp [runDefers] at hr
  | .collected r :: ds, l, h, h', w, s, hd, hr => by
    simp only [runDefers] at hr
    split at hr
    · rename_i hg
      obtain ⟨m, es, rfl, hm, hs⟩ := hd
      have ho := s.obj r m hm
      rw [hg] at ho
      have hb : w.heap[m.blk]? = some (.deferred (some [])) := ho
      have hlive : (h.get r).live = true := by rw [hg]; rfl
      have hro : ¬ (h.get r).ro := by rw [hg]; exact id
      have hlt := (s.obj r m hm).lt hlive
      have hrun : (Instr.takeDeferred m.blk).run G.C.P w = .ok [] { w with heap := w.heap.setIfInBounds m.blk (.deferred none) } := by
        simp only [Instr.takeDeferred, Sem.run_bind, run_getObj hb (by simp), Result.andThen_ok, run_setObj hb (by simp)]
        rfl
      have s' : Sim G μ (h.put r (.defd false)) { w with heap := w.heap.setIfInBounds m.blk (.deferred none) } := by
        refine s.upd hm hlive hro (.defd false) _ ?_ (by simp) ⟨rfl, rfl, rfl⟩ ?_
        · intro B hB; simp [Array.getElem?_setIfInBounds_ne (Ne.symm hB)]
        · show _ = _
          simp [hlt]
      obtain ⟨w', s2, hnx, hst⟩ := unwind_rel (b := b) (cs := cs) (todo := todo) (tmps := tmps) ds es _ h' _ s' hs hr
      refine ⟨w', s2, by rw [← hnx, H.nx_put], .head (step_lone_go ?_) hst⟩
      simp [stepG, Frame.atR, unwind, Sem.runT_eq, hrun]
    · cases hr

end
end Go.AE
