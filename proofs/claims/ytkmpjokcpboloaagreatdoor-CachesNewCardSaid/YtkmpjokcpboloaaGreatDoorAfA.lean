/-
  A part of the abstract evaluator's soundness: its operations agree with the model's. No conditions beyond the theorems' own.
-/
import Derived.Test.YtkmpjokcpboloaaGreatDoorAeZ
set_option linter.unusedSimpArgs false
set_option linter.unusedVariables false
namespace Go.AE

section
variable {G : Gp} {μ : Inj} {h : H} {w : World} {t : Tr V} {ρ : Operand → Value}

/-! functions with a body -/
theorem leave_rel (s : Sim G μ h w) {b fr : Frame} {cs : List Frame} {a : Go.Act} {todo : List Item} {fn : Func} {n : Nat} {ds : List D} (hk : b.kind = .normal) (hf : G.C.P.funcs[b.fn]? = some fn)
    (ht : TRel μ n t a.tmps) (hd : DRels μ ds a.defers) :
    (retO G.C fn.results.toList t (runDefers ds h)).any (fun v h' => ∃ w' c, Sim G μ h' w' ∧ h.nx = h'.nx ∧ VRel μ v c ∧
      Steps G.C.P (lone { b.atR a todo with mode := .returning } (fr :: cs) w) (lone (fr.finish c) cs w')) := by
  cases hr : runDefers ds h with
  | none => trivial
  | some h' =>
    obtain ⟨tmps, l⟩ := a
    obtain ⟨w', s', hnx, hst⟩ := unwind_rel (b := b) (cs := fr :: cs) (todo := todo) (tmps := tmps) ds l h h' w s hd hr
    simp only [retO, retF]
    split
    · rename_i vs hvs
      obtain ⟨xs, hxs, hrun⟩ := results_rel s' ht _ _ hvs
      refine ⟨w', _, s', hnx, retV_rel hxs, hst.trans (.one (step_lone_go ?_))⟩
      have hres : (Go.results fn tmps).run G.C.P w' = .ok (if h : (⟨xs⟩ : Array Value).size = 1 then (⟨xs⟩ : Array Value)[0] else .tuple ⟨xs⟩) w' := by
        rw [results_eq]; simp only [Sem.run_bind, hrun, Result.andThen_ok]; rfl
      have hk' : (b.atR ⟨tmps, []⟩ todo).kind = .normal := hk
      simp only [stepG, Frame.atR, unwind, hf, Sem.runT_eq, hres, doReturn, hk, GStep.bare_after]
      rfl
    · trivial

theorem getT_bindArgs : ∀ (vs : List V) (i : Nat) (t : Tr V) (j : Nat), getT (bindArgs i vs t) j = if i ≤ j ∧ j < i + vs.length then vs.getD (j - i) undef else getT t j
  | [], i, t, j => by simp only [bindArgs, List.length_nil, Nat.add_zero]; rw [if_neg (by omega)]
  | v :: vs, i, t, j => by
    simp only [bindArgs]
    rw [getT_bindArgs vs (i + 1), getT_set]
    simp only [List.length_cons]
    by_cases h1 : i + 1 ≤ j ∧ j < i + 1 + vs.length
    · rw [if_pos h1, if_pos (by omega)]
      obtain ⟨d, rfl⟩ : ∃ d, j = i + 1 + d := ⟨j - (i + 1), by omega⟩
      have e1 : i + 1 + d - (i + 1) = d := by omega
      have e2 : i + 1 + d - i = d + 1 := by omega
      rw [e1, e2]; rfl
    · rw [if_neg h1]
      by_cases h2 : j = i
      · subst h2; rw [if_pos rfl, if_pos (by omega)]; simp
      · rw [if_neg h2, if_neg (by omega)]

theorem TRel.enter {vs : List V} {args : List Value} (hv : VRels μ vs args) {nt : Nat} (hle : vs.length ≤ nt) :
    TRel μ nt (bindArgs 0 vs .nil) ((⟨args⟩ : Array Value) ++ Array.replicate (nt - (⟨args⟩ : Array Value).size) Go.undef) := by
  have hl := hv.length
  refine ⟨by simp; omega, fun j => ?_⟩
  rw [getT_bindArgs]
  simp only [Nat.zero_le, true_and, Nat.zero_add, Nat.sub_zero]
  by_cases hj : j < vs.length
  · rw [if_pos hj]
    have hlt : j < args.length := by omega
    obtain ⟨x, hx, hr⟩ := hv.get j (v := vs.getD j undef) (by rw [nthL_eq, List.getD, List.getElem?_eq_getElem hj]; rfl)
    have : ((⟨args⟩ : Array Value) ++ Array.replicate (nt - (⟨args⟩ : Array Value).size) Go.undef)[j]? = some x := by
      rw [Array.getElem?_append_left (by simpa using hlt)]
      simpa using hx
    simp only [Array.getD_eq_getD_getElem?, this, Option.getD_some]
    exact hr
  · rw [if_neg hj, getT_nil]
    have : ((⟨args⟩ : Array Value) ++ Array.replicate (nt - (⟨args⟩ : Array Value).size) Go.undef).getD j Go.undef = Go.undef := by
      simp only [Array.getD_eq_getD_getElem?]
      rw [Array.getElem?_append_right (by simp; omega)]
      cases h : (Array.replicate (nt - (⟨args⟩ : Array Value).size) Go.undef)[j - (⟨args⟩ : Array Value).size]? with
      | none => rfl
      | some x =>
        have := Array.mem_of_getElem? h
        rw [Array.mem_replicate] at this
        simp [this.2]
    rw [this]
    exact VRel.undef _

abbrev b0 (f : FuncId) : Frame := { (default : Frame) with fn := f, kind := .normal }

theorem callF_rel {fr : Frame} {cs : List Frame} (hok : FrOk fr) {ex : Exec} (hC : CtxOk G.C) (hex : ExOk G ex) (s : Sim G μ h w) {f : FuncId} {vs : List V} {args : List Value} (hv : VRels μ vs args) :
    (callF G.C ex f vs h).any (Acts G fr cs h.nx μ w (callFunc f ⟨args⟩)) := by
  unfold callF compF
  cases hh : G.C.hook f with
  | some g => exact hC.hook f g hh G rfl μ h w vs args s hv fr cs hok
  | none =>
    simp only
    cases hx : G.C.ext f with
    | some x => exact extV_rel s (hC.ext f x hx) hv
    | none =>
      simp only
      cases hf : G.C.fn f with
      | none => trivial
      | some fn =>
        simp only
        cases hb : fn.body with
        | none => trivial
        | some body =>
          simp only
          split
          · rename_i hle
            rw [bleN, decide_eq_true_eq] at hle
            obtain ⟨hfn, hname⟩ := hC.fn f fn hf
            have hname' : fn.name ≠ "runtime.NumGoroutine" := by simpa using hname
            have hrun : (callFunc f ⟨args⟩).run G.C.P w = .ok (.enter f ⟨args⟩) w := by simp [callFunc, hfn, hname', hb]
            have henter : Frame.enter G.C.P f ⟨args⟩ .normal = (b0 f).atR ⟨(⟨args⟩ : Array Value) ++ Array.replicate (fn.ntmps - (⟨args⟩ : Array Value).size) Go.undef, []⟩ [.code body] := by
              simp [Frame.enter, Frame.atR, hfn, hb]; rfl
            refine E.any_bindR _ ?_
            have := hex fn.ntmps body (bindArgs 0 vs .nil) [] h (b0 f) ⟨(⟨args⟩ : Array Value) ++ Array.replicate (fn.ntmps - (⟨args⟩ : Array Value).size) Go.undef, []⟩ [] (fr :: cs) μ w s (TRel.enter hv hle) rfl (fun e => (e rfl).elim)
            refine E.any_mono ?_ _ this
            intro e t' ds' h' hl
            obtain ⟨μ', a', w', h1, h2, h3, h4, h5, h6, h7⟩ := hl
            have h7 := h7.of_steps (steps_entry (P := G.C.P) (b := b0 f) body [])
            rw [← henter] at h7
            have fin : ∀ todo, Steps G.C.P (lone (Frame.enter G.C.P f ⟨args⟩ .normal) (fr :: cs) w) (lone { (b0 f).atR a' todo with mode := .returning } (fr :: cs) w') →
                (retO G.C fn.results.toList t' (runDefers ds' h')).any (Acts G fr cs h.nx μ w (callFunc f ⟨args⟩)) := by
              intro todo hst
              refine R.any_mono ?_ _ (leave_rel (fr := fr) (cs := cs) (todo := todo) (b := b0 f) h3 rfl hfn h4 h5)
              rintro v h'' ⟨w'', c, g1, g2, g3, g4⟩
              exact ⟨μ', w'', c, h1, by rw [← g2]; exact h2, g1, g3, Goes.enter hok hrun (hst.trans g4)⟩
            cases e with
            | normal => exact fin [] (h7.trans (.one (stepR_end rfl)))
            | ret => obtain ⟨kk, h7⟩ := h7; exact fin _ (h7.trans (.one (stepR_ret rfl)))
            | exit id => trivial
            | goto l => trivial
          · trivial
end
end Go.AE
