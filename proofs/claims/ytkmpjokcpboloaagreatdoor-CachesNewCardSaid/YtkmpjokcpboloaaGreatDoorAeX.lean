/-
  A part of the abstract evaluator's soundness: its operations agree with the model's. No conditions beyond the theorems' own.
-/
import Derived.Test.YtkmpjokcpboloaaGreatDoorAeW
import Derived.AtR
import Derived.Orders
set_option linter.unusedSimpArgs false
set_option linter.unusedVariables false
namespace Go.AE

/-! the machine: calls, regions, loops -/
def FrOk (fr : Frame) : Prop := match fr.todo with
  | .inRegion _ _ :: _ => True
  | .inRangeFunc _ :: _ => True
  | _ => False

abbrev gor (fr : Frame) (cs : List Frame) : Goroutine := { frame := fr, callers := cs, status := .running, dying := none }

/-- from any machine that is about to apply an operation's meaning, it comes to where the frame holds its value -/
def Goes (P : Program) (fr : Frame) (cs : List Frame) (s : Sem Next) (w : World) (c : Value) (w' : World) : Prop :=
  ∀ fr0 w0, (stepG P true (gor fr0 cs) w0).bare = (stepG.apply P true fr cs none s w).bare → Steps P (lone fr0 cs w0) (lone (fr.finish c) cs w')

theorem apply_congr {P : Program} {fr : Frame} {cs : List Frame} {s s2 : Sem Next} {w w2 : World} (h : s.run P w = s2.run P w2) :
    (stepG.apply P true fr cs none s w).bare = (stepG.apply P true fr cs none s2 w2).bare := by
  unfold stepG.apply
  simp only [if_true, Sem.runT_eq, GStep.bare_after, h]

section
variable {P : Program} {fr : Frame} {cs : List Frame} {s s2 : Sem Next} {w w2 w' : World} {c : Value}

theorem Goes.of_run (h : s.run P w = s2.run P w2) (g : Goes P fr cs s2 w2 c w') : Goes P fr cs s w c w' :=
  fun fr0 w0 e => g fr0 w0 (e.trans (apply_congr h))

theorem Goes.value (h : s.run P w = .ok (.value c) w') : Goes P fr cs s w c w' :=
  fun fr0 w0 e => .one (step_lone_go (by rw [e]; simp [stepG.apply, h]))

theorem Goes.skip (h : s.run P w = .ok .skip w') : Goes P fr cs s w Go.undef w' :=
  fun fr0 w0 e => .one (step_lone_go (by rw [e]; simp [stepG.apply, h]))

theorem Goes.enter {f : FuncId} {args : Array Value} {w1 : World} (hok : FrOk fr) (h : s.run P w = .ok (.enter f args) w1)
    (hs : Steps P (lone (Frame.enter P f args .normal) (fr :: cs) w1) (lone (fr.finish c) cs w')) : Goes P fr cs s w c w' :=
  fun fr0 w0 e => .head (step_lone_go (by
    rw [e]
    unfold FrOk at hok
    split at hok
    · rename_i hf; simp [stepG.apply, h, hf]
    · rename_i hf; simp [stepG.apply, h, hf]
    · exact hok.elim)) hs

theorem Goes.round {l : Nat} {f : FuncId} {tmps : Array Value} {a b : Code} {w1 : World} (hok : FrOk fr) (h : s.run P w = .ok (.round l f tmps a b) w1)
    (hs : Steps P (lone (Frame.round l f tmps a b .normal) (fr :: cs) w1) (lone (fr.finish c) cs w')) : Goes P fr cs s w c w' :=
  fun fr0 w0 e => .head (step_lone_go (by rw [e]; simp [stepG.apply, h])) hs

theorem step_lone_comm {fr0 : Frame} {w0 w1 : World} {cases : Array CommCase} {bl : Bool} {sh : CommShape}
    (h : (stepG P true (gor fr0 cs) w0).bare = .comm (gor fr cs) cases bl sh w1) :
    step P (lone fr0 cs w0) = (communicate P { timers := #[], alone := none, slice := none } #[{ (default : Goroutine) with status := .finished }] 0 (gor fr cs) cases bl sh w1).1 := by
  generalize hs : stepG P true (gor fr0 cs) w0 = s at h
  cases s <;> simp at h
  obtain ⟨rfl, rfl, rfl, rfl, rfl⟩ := h
  rw [step, stepT, move_lone]
  simp [runT, lone, Array.swapAt!, hs]

theorem Goes.comm {cases : Array CommCase} {bl : Bool} {sh : CommShape} {w1 : World} (h : s.run P w = .ok (.comm cases bl sh) w1)
    (hc : (communicate P { timers := #[], alone := none, slice := none } #[{ (default : Goroutine) with status := .finished }] 0 (gor fr cs) cases bl sh w1).1 = .next (lone (fr.finish c) cs w')) :
    Goes P fr cs s w c w' := by
  intro fr0 w0 e
  refine .one ?_
  rw [step_lone_comm (fr := fr) (w1 := w1) (cases := cases) (bl := bl) (sh := sh) (by rw [e]; simp [stepG.apply, h])]
  exact hc
end

/-- what an operation, or a call, leaves behind -/
def Acts (G : Gp) (fr : Frame) (cs : List Frame) (nx : Pos) (μ : Inj) (w : World) (s : Sem Next) (v : V) (h' : H) : Prop :=
  ∃ μ' w' c, μ.ext nx μ' ∧ nx.toNat ≤ h'.nx.toNat ∧ Sim G μ' h' w' ∧ VRel μ' v c ∧ Goes G.C.P fr cs s w c w'

section
variable {G : Gp} {μ : Inj} {h : H} {w : World} {t : Tr V} {ρ : Operand → Value} {nx : Pos}

theorem Gives.acts {fr : Frame} {cs : List Frame} {s : Sem Next} {v : V} {h' : H} (g : Gives G nx μ w s v h') : Acts G fr cs nx μ w s v h' := by
  obtain ⟨μ', w', c, r, h1, h2, h3, h4, h5, h6⟩ := g
  refine ⟨μ', w', c, h1, h2, h3, h4, ?_⟩
  rcases h6 with rfl | ⟨rfl, rfl⟩
  · exact Goes.value h5
  · exact Goes.skip h5

theorem Acts.of_run {fr : Frame} {cs : List Frame} {s s2 : Sem Next} {w2 : World} {v : V} {h' : H} (hr : s.run G.C.P w = s2.run G.C.P w2) (g : Acts G fr cs nx μ w2 s2 v h') : Acts G fr cs nx μ w s v h' := by
  obtain ⟨μ', w', c, h1, h2, h3, h4, h5⟩ := g
  exact ⟨μ', w', c, h1, h2, h3, h4, h5.of_run hr⟩
end

/-! where a piece of code arrives -/
def entry : Code → List Item → List Item
  | .loop c, k => .code c :: .inLoop c :: k
  | c, k => .code c :: k

theorem steps_entry {P : Program} {b : Frame} {a : Act} {cs : List Frame} {w : World} (c : Code) (k : List Item) :
    Steps P (lone (b.atR a (.code c :: k)) cs w) (lone (b.atR a (entry c k)) cs w) := by
  cases c <;> first | exact .refl _ _ | exact .one stepR_loop

def Arr (P : Program) (m : Machine) (b : Frame) (k : List Item) (cs : List Frame) : Ex → Act → World → Prop
  | .normal, a, w => Steps P m (lone (b.atR a k) cs w)
  | .exit id, a, w => ∃ kk, exitTo id kk = exitTo id k ∧ Steps P m (lone (b.atR a (.code (.exit id) :: kk)) cs w)
  | .goto l, a, w => ∃ kk, gotoIn l kk = gotoIn l k ∧ Steps P m (lone (b.atR a (.code (.goto l) :: kk)) cs w)
  | .ret, a, w => ∃ kk, Steps P m (lone (b.atR a (.code .ret :: kk)) cs w)

theorem Arr.of_steps {P : Program} {m m₁ : Machine} {b : Frame} {k : List Item} {cs : List Frame} {e : Ex} {a : Act} {w : World} (hs : Steps P m m₁) (g : Arr P m₁ b k cs e a w) :
    Arr P m b k cs e a w := by
  cases e with
  | normal => exact hs.trans g
  | exit id => obtain ⟨kk, h1, h2⟩ := g; exact ⟨kk, h1, hs.trans h2⟩
  | goto l => obtain ⟨kk, h1, h2⟩ := g; exact ⟨kk, h1, hs.trans h2⟩
  | ret => obtain ⟨kk, h2⟩ := g; exact ⟨kk, hs.trans h2⟩

/-- behind an item that is no block and no scope, for an end that is not the normal one -/
theorem Arr.pass {P : Program} {m : Machine} {b : Frame} {x : Item} {k : List Item} {cs : List Frame} {e : Ex} {a : Act} {w : World} (hx : x.plain = true) (he : e ≠ .normal)
    (g : Arr P m b (x :: k) cs e a w) : Arr P m b k cs e a w := by
  cases e with
  | normal => exact (he rfl).elim
  | exit id => obtain ⟨kk, h1, h2⟩ := g; exact ⟨kk, by rw [h1]; cases x <;> simp_all [exitTo, Item.plain], h2⟩
  | goto l => obtain ⟨kk, h1, h2⟩ := g; exact ⟨kk, by rw [h1]; cases x <;> simp_all [gotoIn, Item.plain], h2⟩
  | ret => exact g

/-- what an evaluator of code promises -/
def Rd (b : Frame) (ds : List D) : Prop := b.roundOf ≠ none → ds = [.round]

def Lands (G : Gp) (nx : Pos) (μ : Inj) (nt : Nat) (m : Machine) (b : Frame) (k : List Item) (cs : List Frame) (e : Ex) (t' : Tr V) (ds' : List D) (h' : H) : Prop :=
  ∃ μ' a' w', μ.ext nx μ' ∧ nx.toNat ≤ h'.nx.toNat ∧ Sim G μ' h' w' ∧ TRel μ' nt t' a'.tmps ∧ DRels μ' ds' a'.defers ∧ Rd b ds' ∧ Arr G.C.P m b k cs e a' w'

def ExOk (G : Gp) (ex : Exec) : Prop := ∀ (nt : Nat) (c : Code) (t : Tr V) (ds : List D) (h : H) (b : Frame) (a : Act) (k : List Item) (cs : List Frame) (μ : Inj) (w : World),
  Sim G μ h w → TRel μ nt t a.tmps → DRels μ ds a.defers → Rd b ds →
  (ex nt c t ds h).any (Lands G h.nx μ nt (lone (b.atR a (entry c k)) cs w) b k cs)

end Go.AE
