/-
  A closed function that the abstract evaluator takes to true says true at every world; contexts and hooks. No conditions beyond the theorems' own.
-/
import Derived.Test.YtkmpjokcpboloaaGreatDoorAfL
import GoSem.ClaimChange
set_option linter.unusedSimpArgs false
set_option linter.unusedVariables false
namespace Go.AE

/-! a closed call, at any world -/
def World.after (w w' : World) : Prop := (∀ B, B < w.heap.size → w'.heap[B]? = w.heap[B]?) ∧ w.heap.size ≤ w'.heap.size ∧ w'.os = w.os ∧ w'.output = w.output ∧ w'.tape = w.tape

def h0 : H := ⟨.h, .nil⟩
def μ0 : Inj := fun _ => none
def G0 (C : Ctx) (w : World) : Gp := { C, N := w.heap.size, X := fun _ => False, w0 := w }

theorem sim0 (C : Ctx) (hg : ∀ g, C.gl g = false) (w : World) : Sim (G0 C w) μ0 h0 w where
  obj := fun b l h => nomatch h
  inj := fun b c l m h => nomatch h
  nx := fun b l h => nomatch h
  old := fun B _ _ => rfl
  size := Nat.le_refl _
  wr := fun b l h => nomatch h
  env := ⟨rfl, rfl, rfl⟩
  gl := fun g h => by have h : C.gl g = true := h; rw [hg] at h; cases h

def isTrue : V → Bool
  | .bool true => true
  | _ => false
theorem isTrue_rel {μ : Inj} {v : V} {c : Value} (h : isTrue v = true) (hv : VRel μ v c) : c = .bool true := by
  cases v with
  | bool b => cases b with
    | true => exact hv
    | false => cases h
  | _ => cases h

/-- a closed function that says true in the evaluator says true at every world, and leaves it as it was, but for new memory -/
def SaysTrue (P : Program) (f : FuncId) (w : World) : Prop := Calls P f #[] w fun e w' => e = .returned (.bool true) ∧ World.after w w'

theorem saysTrue {C : Ctx} (hC : CtxOk C) (hg : ∀ g, C.gl g = false) {fuel : Nat} {f : FuncId} {fn : Func} (hh : C.hook f = none) (hx : C.ext f = none) (hf : C.fn f = some fn) (hb : fn.body.isSome = true)
    (hq : (AE.call C fuel f [] h0).allB isTrue = true) (w : World) : SaysTrue C.P f w := by
  obtain ⟨body, hb⟩ := Option.isSome_iff_exists.1 hb
  have := call_calls (G := G0 C w) hC (sim0 C hg w) (fuel := fuel) (vs := []) (args := []) rfl hh hx hf hb hq
  refine Calls.mono this ?_
  rintro e w' ⟨v, c, μ', h', rfl, hv, hr, _, s⟩
  refine ⟨by rw [isTrue_rel hv hr], fun B hB => s.old B hB id, s.size, s.env.1, s.env.2.1, s.env.2.2⟩

theorem Sim.later {G : Gp} {μ : Inj} {h : H} {w w' : World} (s : Sim G μ h w) (a : World.after w w') : Sim G μ h w' := by
  obtain ⟨a1, a2, a3, a4, a5⟩ := a
  refine ⟨?_, s.inj, s.nx, ?_, Nat.le_trans s.size a2, s.wr, ⟨a3.trans s.env.1, a4.trans s.env.2.1, a5.trans s.env.2.2⟩, s.gl⟩
  · intro b l hb
    cases hl : (h.get b).live with
    | true =>
      have hlt := (s.obj b l hb).lt hl
      exact (s.obj b l hb).keep (Inj.le.refl _) fun x hx => by rw [a1 _ hlt]; exact hx
    | false =>
      have : h.get b = .dead := by cases hg : h.get b <;> rw [hg] at hl <;> first | rfl | cases hl
      rw [this]; trivial
  · intro B hB hX
    rw [a1 B (Nat.lt_of_lt_of_le hB s.size)]
    exact s.old B hB hX

/-- a function that is proved to say true, as a hook -/
def hookTrue : List V → H → R := fun vs h => match vs with
  | [] => .ok (.bool true) h
  | _ => .fail

theorem hookTrue_ok {P : Program} {f : FuncId} {fn : Func} (hf : P.funcs[f]? = some fn) (hname : (fn.name == "runtime.NumGoroutine") = false) (hb : fn.body.isSome = true) (ht : ∀ w, SaysTrue P f w)
    (G : Gp) (hP : G.C.P = P) (μ : Inj) (h : H) (w : World) (vs : List V) (args : List Value) (s : Sim G μ h w) (hv : VRels μ vs args) (fr : Frame) (cs : List Frame) (hok : FrOk fr) :
    (hookTrue vs h).any (Acts G fr cs h.nx μ w (callFunc f ⟨args⟩)) := by
  obtain ⟨body, hb⟩ := Option.isSome_iff_exists.1 hb
  unfold hookTrue
  split
  · cases hv
    subst hP
    obtain ⟨e, w', fr', ⟨rfl, ha⟩, hst, hfn, hl⟩ := ht w (fr :: cs)
    have hname' : fn.name ≠ "runtime.NumGoroutine" := by simpa using hname
    have hrun : (callFunc f ⟨[]⟩).run G.C.P w = .ok (.enter f ⟨[]⟩) w := by simp [callFunc, hf, hname', hb]
    exact ⟨μ, w', .bool true, Inj.ext.refl _ _, Nat.le_refl _, s.later ha, rfl, Goes.enter hok hrun (Steps.trans hst (.one (step_leave_returned hl)))⟩
  · trivial

/-! the context of a program: what it says of its functions; the bodyless ones by a list; hooks by a list -/
def lookN {α : Type} : List (Nat × α) → Nat → Option α
  | [], _ => none
  | (i, x) :: l, n => match Nat.beq i n with
    | true => some x
    | false => lookN l n
theorem lookN_mem {α : Type} : ∀ {l : List (Nat × α)} {n : Nat} {x : α}, lookN l n = some x → (n, x) ∈ l
  | [], _, _, h => by cases h
  | (i, y) :: l, n, x, h => by
    simp only [lookN] at h
    split at h
    · rename_i e
      cases Nat.eq_of_beq_eq_true e
      cases h; simp
    · exact List.mem_cons_of_mem _ (lookN_mem h)

def ctx (P : Program) (exts : List (Nat × Ext)) (hooks : List (Nat × (List V → H → R))) : Ctx :=
  { P, fn := fnOf P, ext := fun f => lookN exts f, gl := fun _ => false, hook := fun f => lookN hooks f }

theorem fnOf_spec {P : Program} {f : FuncId} {fn : Func} (h : fnOf P f = some fn) : P.funcs[f]? = some fn ∧ (fn.name == "runtime.NumGoroutine") = false := by
  unfold fnOf at h
  split at h
  · rename_i fn' hf
    split at h
    · cases h
    · rename_i hn; cases h; exact ⟨hf, hn⟩
  · cases h

theorem ctx_ok {P : Program} {exts : List (Nat × Ext)} {hooks : List (Nat × (List V → H → R))} (hm : P.follows .mixedOrders = true)
    (hx : ∀ x ∈ exts, ExtOk (ctx P exts hooks) x.1 x.2)
    (hh : ∀ x ∈ hooks, ∀ (G : Gp), G.C.P = P → ∀ (μ : Inj) (h : H) (w : World) (vs : List V) (args : List Value), Sim G μ h w → VRels μ vs args → ∀ fr cs, FrOk fr →
      (x.2 vs h).any (Acts G fr cs h.nx μ w (callFunc x.1 ⟨args⟩))) : CtxOk (ctx P exts hooks) where
  fn := fun f fn h => fnOf_spec h
  mixed := hm
  ext := fun f x h => hx (f, x) (lookN_mem h)
  hook := fun f g h G hG μ h' w vs args s hv fr cs hok => hh (f, g) (lookN_mem h) G (by rw [hG]; rfl) μ h' w vs args s hv fr cs hok

theorem ExtOk.noEscape {C : Ctx} {f : FuncId} {fn : Func} (hf : C.P.funcs[f]? = some fn) (hn : (fn.name == "runtime.NumGoroutine") = false) (hb : fn.body = none) (h1 : Extern.findNext fn = none) (h2 : Extern.find fn = some Extern.AbiNoEscape.same) : ExtOk C f .noEscape := ⟨fn, hf, hn, hb, h1, h2⟩
theorem ExtOk.indexByte {C : Ctx} {f : FuncId} {fn : Func} (hf : C.P.funcs[f]? = some fn) (hn : (fn.name == "runtime.NumGoroutine") = false) (hb : fn.body = none) (h1 : Extern.findNext fn = none) (h2 : Extern.find fn = some Extern.BytealgIndexByte.indexByte) : ExtOk C f .indexByte := ⟨fn, hf, hn, hb, h1, h2⟩
theorem ExtOk.count {C : Ctx} {f : FuncId} {fn : Func} (hf : C.P.funcs[f]? = some fn) (hn : (fn.name == "runtime.NumGoroutine") = false) (hb : fn.body = none) (h1 : Extern.findNext fn = none) (h2 : Extern.find fn = some Extern.BytealgCount.count) : ExtOk C f .count := ⟨fn, hf, hn, hb, h1, h2⟩
theorem ExtOk.makeNoZero {C : Ctx} {f : FuncId} {fn : Func} {e rt : TypeId} (hf : C.P.funcs[f]? = some fn) (hn : (fn.name == "runtime.NumGoroutine") = false) (hb : fn.body = none) (h1 : Extern.findNext fn = none) (h2 : Extern.find fn = some (Extern.BytealgMakeNoZero.makeNoZero fn.params fn.resultTypes))
    (h3 : fn.resultTypes[0]? = some rt) (h4 : C.P.underlying rt = some (.slice e)) : ExtOk C f (.makeNoZero e) := ⟨fn, hf, hn, hb, h1, h2, rt, h3, h4⟩

/-- the same with arguments that hold no memory of the caller's -/
theorem saysTrueOf {C : Ctx} (hC : CtxOk C) (hg : ∀ g, C.gl g = false) {fuel : Nat} {f : FuncId} {fn : Func} {vs : List V} {args : List Value} (hv : VRels μ0 vs args) (hh : C.hook f = none) (hx : C.ext f = none) (hf : C.fn f = some fn) (hb : fn.body.isSome = true)
    (hq : (AE.call C fuel f vs h0).allB isTrue = true) (w : World) : Calls C.P f ⟨args⟩ w fun e w' => e = .returned (.bool true) ∧ World.after w w' := by
  obtain ⟨body, hb⟩ := Option.isSome_iff_exists.1 hb
  have := call_calls (G := G0 C w) hC (sim0 C hg w) (fuel := fuel) hv hh hx hf hb hq
  refine Calls.mono this ?_
  rintro e w' ⟨v, c, μ', h', rfl, hv, hr, _, s⟩
  refine ⟨by rw [isTrue_rel hv hr], fun B hB => s.old B hB id, s.size, s.env.1, s.env.2.1, s.env.2.2⟩

/-- what was there is as it was -/
theorem World.after.kept {w w' : World} (a : World.after w w') (may : MemPlace → Prop) : w.keptBut w' may := by
  obtain ⟨a1, a2, a3, a4, a5⟩ := a
  refine ⟨a3, a4, fun i hi => ?_⟩
  rw [a1 i hi]
  cases h : w.heap[i]? with
  | none => rfl
  | some o => cases o <;> first | exact ⟨rfl, rfl, rfl, fun _ _ => rfl⟩ | exact .inr ⟨rfl, rfl⟩ | rfl

end Go.AE
