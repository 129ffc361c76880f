/-
  What the abstract evaluator computes of a call holds of the call, at every world that its heap stands for. No conditions beyond the theorems' own.
-/
import Derived.Test.YtkmpjokcpboloaaGreatDoorAfK
set_option linter.unusedSimpArgs false
set_option linter.unusedVariables false
namespace Go.AE

/-! a whole call -/
noncomputable def R.allB (q : V → Bool) (r : R) : Bool := R.rec (motive := fun _ => Bool) false (fun v _ => q v) (fun n _ ih => (List.range n).all ih) r

theorem R.allB_any {q : V → Bool} {Q : V → H → Prop} : ∀ (r : R), r.allB q = true → r.any Q → ∃ v h, q v = true ∧ Q v h
  | .fail, h, _ => by cases h
  | .ok v h, hq, hh => ⟨v, h, hq, hh⟩
  | .ask n k, hq, ⟨i, hi, hh⟩ => by
    have hq : (List.range n).all (fun i => (k i).allB q) = true := hq
    rw [List.all_eq_true] at hq
    exact R.allB_any (k i) (hq i (List.mem_range.2 hi)) hh

section
variable {G : Gp} {μ : Inj} {h : H} {w : World} {t : Tr V}

theorem leaving_rel (s : Sim G μ h w) {b : Frame} {cs : List Frame} {a : Go.Act} {todo : List Item} {fn : Func} {n : Nat} {ds : List D} (hk : b.kind = .normal) (hf : G.C.P.funcs[b.fn]? = some fn)
    (ht : TRel μ n t a.tmps) (hd : DRels μ ds a.defers) :
    (retO G.C fn.results.toList t (runDefers ds h)).any (fun v h' => ∃ w' c fr, Sim G μ h' w' ∧ h.nx = h'.nx ∧ VRel μ v c ∧ fr.fn = b.fn ∧ fr.leaving G.C.P w' (.returned c) ∧
      Steps G.C.P (lone { b.atR a todo with mode := .returning } cs w) (lone fr cs w')) := by
  cases hr : runDefers ds h with
  | none => trivial
  | some h' =>
    obtain ⟨tmps, l⟩ := a
    obtain ⟨w', s', hnx, hst⟩ := unwind_rel (b := b) (cs := cs) (todo := todo) (tmps := tmps) ds l h h' w s hd hr
    simp only [retO, retF]
    split
    · rename_i vs hvs
      obtain ⟨xs, hxs, hrun⟩ := results_rel s' ht _ _ hvs
      refine ⟨w', _, { b.atR ⟨tmps, []⟩ todo with mode := .returning }, s', hnx, retV_rel hxs, ?_, ⟨rfl, rfl, hk, fn, hf, ?_⟩, hst⟩
      · rfl
      · have hres : (Go.results fn tmps).run G.C.P w' = .ok (if h : (⟨xs⟩ : Array Value).size = 1 then (⟨xs⟩ : Array Value)[0] else .tuple ⟨xs⟩) w' := by
          rw [results_eq]; simp only [Sem.run_bind, hrun, Result.andThen_ok]; rfl
        exact hres
    · trivial

theorem call_calls (hC : CtxOk G.C) (s : Sim G μ h w) {fuel : Nat} {f : FuncId} {fn : Func} {body : Code} {vs : List V} {args : List Value} (hv : VRels μ vs args) {q : V → Bool}
    (hh : G.C.hook f = none) (hx : G.C.ext f = none) (hf : G.C.fn f = some fn) (hb : fn.body = some body) (hq : (AE.call G.C fuel f vs h).allB q = true) :
    Calls G.C.P f ⟨args⟩ w fun e w' => ∃ v c μ' h', e = .returned c ∧ q v = true ∧ VRel μ' v c ∧ μ.ext h.nx μ' ∧ Sim G μ' h' w' := by
  intro cs
  have hcall : AE.call G.C fuel f vs h = match Nat.ble vs.length fn.ntmps with
      | true => (exec G.C fuel fn.ntmps body (bindArgs 0 vs .nil) [] h).bindR (endF G.C fn.results.toList)
      | false => .fail := by
    simp only [AE.call, callFn, callF, compF, hh, hx, hf, hb]
    rfl
  rw [hcall] at hq
  split at hq
  · rename_i hle
    rw [bleN, decide_eq_true_eq] at hle
    obtain ⟨hfn, hname⟩ := hC.fn f fn hf
    have henter : Frame.enter G.C.P f ⟨args⟩ .normal = (b0 f).atR ⟨(⟨args⟩ : Array Value) ++ Array.replicate (fn.ntmps - (⟨args⟩ : Array Value).size) Go.undef, []⟩ [.code body] := by
      simp [Frame.enter, Frame.atR, hfn, hb]; rfl
    have key : ((exec G.C fuel fn.ntmps body (bindArgs 0 vs .nil) [] h).bindR (endF G.C fn.results.toList)).any
        (fun v h' => ∃ μ' w' c fr, μ.ext h.nx μ' ∧ Sim G μ' h' w' ∧ VRel μ' v c ∧ fr.fn = f ∧ fr.leaving G.C.P w' (.returned c) ∧ Steps G.C.P (lone (Frame.enter G.C.P f ⟨args⟩ .normal) cs w) (lone fr cs w')) := by
      refine E.any_bindR _ ?_
      have := exec_ok hC fuel fn.ntmps body (bindArgs 0 vs .nil) [] h (b0 f) ⟨(⟨args⟩ : Array Value) ++ Array.replicate (fn.ntmps - (⟨args⟩ : Array Value).size) Go.undef, []⟩ [] cs μ w s (TRel.enter hv hle) rfl (fun e => (e rfl).elim)
      refine E.any_mono ?_ _ this
      intro e t' ds' h' hl
      obtain ⟨μ', a', w', h1, h2, h3, h4, h5, h6, h7⟩ := hl
      have h7 := h7.of_steps (steps_entry (P := G.C.P) (b := b0 f) body [])
      rw [← henter] at h7
      have fin : ∀ todo, Steps G.C.P (lone (Frame.enter G.C.P f ⟨args⟩ .normal) cs w) (lone { (b0 f).atR a' todo with mode := .returning } cs w') →
          (retO G.C fn.results.toList t' (runDefers ds' h')).any
            (fun v h' => ∃ μ' w' c fr, μ.ext h.nx μ' ∧ Sim G μ' h' w' ∧ VRel μ' v c ∧ fr.fn = f ∧ fr.leaving G.C.P w' (.returned c) ∧ Steps G.C.P (lone (Frame.enter G.C.P f ⟨args⟩ .normal) cs w) (lone fr cs w')) := by
        intro todo hst
        refine R.any_mono ?_ _ (leaving_rel (cs := cs) (todo := todo) (b := b0 f) h3 rfl hfn h4 h5)
        rintro v h'' ⟨w'', c, fr, g1, g2, g3, g4, g5, g6⟩
        exact ⟨μ', w'', c, fr, h1, g1, g3, g4, g5, hst.trans g6⟩
      cases e with
      | normal => exact fin [] (h7.trans (.one (stepR_end rfl)))
      | ret => obtain ⟨kk, h7⟩ := h7; exact fin _ (h7.trans (.one (stepR_ret rfl)))
      | exit id => trivial
      | goto l => trivial
    obtain ⟨v, h', hqv, μ', w', c, fr, h1, h2, h3, h4, h5, h6⟩ := R.allB_any _ hq key
    exact ⟨.returned c, w', fr, ⟨v, c, μ', h', rfl, hqv, h3, h1, h2⟩, h6, h4, h5⟩
  · cases hq
end

/-! a program's tables, read -/
def extOf (P : Program) (f : FuncId) : Option Ext := match P.funcs[f]? with
  | some fn => match fn.body with
    | some _ => none
    | none => match fn.name with
      | "internal/abi.NoEscape" => some .noEscape
      | "internal/bytealg.MakeNoZero" => match P.underlying (fn.resultTypes.getD 0 0) with
        | some (.slice e) => some (.makeNoZero e)
        | _ => none
      | "internal/bytealg.IndexByteString" => some .indexByte
      | "internal/bytealg.CountString" => some .count
      | _ => none
  | none => none
def fnOf (P : Program) (f : FuncId) : Option Func := match P.funcs[f]? with
  | some fn => match fn.name == "runtime.NumGoroutine" with
    | true => none
    | false => some fn
  | none => none

end Go.AE
