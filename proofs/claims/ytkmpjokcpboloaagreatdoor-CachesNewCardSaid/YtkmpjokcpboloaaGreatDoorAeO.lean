/-
  A part of the abstract evaluator's soundness: its operations agree with the model's. No conditions beyond the theorems' own.
-/
import Derived.Test.YtkmpjokcpboloaaGreatDoorAeN
set_option linter.unusedSimpArgs false
set_option linter.unusedVariables false
namespace Go.AE

section
variable {G : Gp} {μ : Inj} {h : H} {w : World} {t : Tr V} {ρ : Operand → Value}

theorem of_someA {f : Option V → Option Al} (hn : f none = none) {x : Option V} {a : Al} (h : f x = some a) : ∃ y, x = some y ∧ f (some y) = some a := by
  cases x with
  | none => rw [hn] at h; cases h
  | some y => exact ⟨y, rfl, h⟩

/-- every operation that makes one block and does nothing else -/
theorem al_rel {b : Pos} (hb : μ b = none) {o : Oper} {f : Tr V → Option Al} (hk : compK G.C o.op = .al f) (hr : OR G.C μ t ρ) {a : Al} (ha : f t = some a) :
    ∃ s : Sem Value, execOp ρ o = (do pure (.value (← s))) ∧ Makes G μ w b s a := by
  cases ho : o.op with
  | alloc e => rw [ho] at hk; cases hk; exact ⟨_, by simp only [execOp, ho], alloc_rel hb ha⟩
  | box e x =>
    rw [ho] at hk; cases hk
    obtain ⟨y, hy, ha⟩ := of_someA (f := AE.box e) rfl ha
    exact ⟨_, by simp only [execOp, ho], box_rel hb (hr _ _ hy) ha⟩
  | buildSlice ty len parts => rw [ho] at hk; cases hk; exact ⟨_, by simp only [execOp, ho], opBuildSlice_rel hb hr ha⟩
  | makeMap ty r => rw [ho] at hk; cases hk; exact ⟨_, by simp only [execOp, ho], opMap_rel hb hr ha⟩
  | makeChan ty n =>
    rw [ho] at hk; cases hk
    obtain ⟨y, hy, ha⟩ := of_someA (f := opChan G.C ty) rfl ha
    exact ⟨_, by simp only [execOp, ho], opChan_rel hb (hr _ _ hy) ha⟩
  | makeSlice ty l c =>
    rw [ho] at hk; cases hk
    simp only at ha
    cases hl : opd G.C t l with
    | none => rw [hl] at ha; simp only [opMkSl] at ha; split at ha <;> (try cases ha); split at ha <;> first | cases ha | (rename_i e1 _; cases e1)
    | some x =>
      cases hc : opd G.C t c with
      | none => rw [hl, hc] at ha; simp only [opMkSl] at ha; split at ha <;> (try cases ha); split at ha <;> first | cases ha | (rename_i e1; cases e1)
      | some y => rw [hl, hc] at ha; exact ⟨_, by simp only [execOp, ho], opMkSl_rel hb (hr _ _ hl) (hr _ _ hc) ha⟩
  | convert src dst x =>
    rw [ho] at hk; simp only [compK, compConv] at hk
    split at hk
    · rename_i sd dd hs hd
      split at hk
      · rename_i e
        split at hk
        · rename_i he; cases hk
          obtain ⟨y, hy, ha⟩ := of_someA (f := opBytes e) rfl ha
          exact ⟨_, by simp only [execOp, ho], opBytes_rel hb hs hd he (hr _ _ hy) ha⟩
        · cases hk
      · cases hk
    · cases hk
  | call c =>
    rw [ho] at hk
    obtain ⟨cal, args, ats⟩ := c
    cases cal with
    | builtin b => simp only [compK, compB] at hk; split at hk <;> cases hk
    | _ => cases hk
  | select cs b =>
    rw [ho] at hk; simp only [compK] at hk
    split at hk <;> first | (exfalso; rename_i e; cases e; done) | cases hk
  | _ => rw [ho] at hk; cases hk

/-- the injection grows by names that were not given out before -/
def Inj.ext (nx : Pos) (μ ν : Inj) : Prop := μ.le ν ∧ ∀ c, μ c = none → ν c ≠ none → nx.toNat ≤ c.toNat
theorem Inj.ext.refl (n : Pos) (μ : Inj) : μ.ext n μ := ⟨Inj.le.refl μ, fun _ h h' => (h' h).elim⟩
theorem Inj.ext.trans {μ ν κ : Inj} {n m : Pos} (h : μ.ext n ν) (h' : ν.ext m κ) (hn : n.toNat ≤ m.toNat) : μ.ext n κ :=
  ⟨h.1.trans h'.1, fun c hc hk => by
    by_cases e : ν c = none
    · exact Nat.le_trans hn (h'.2 c e hk)
    · exact h.2 c hc e⟩
theorem Inj.ext.set {μ : Inj} {b n : Pos} (l : Loc) (hb : μ b = none) (hn : n.toNat ≤ b.toNat) : μ.ext n (μ.set b l) :=
  ⟨Inj.le_set l hb, fun c hc hk => by
    by_cases e : c = b
    · subst e; exact hn
    · rw [Inj.set_other _ _ e] at hk; exact (hk hc).elim⟩

/-- what an operation leaves behind that gives a value -/
def Gives (G : Gp) (nx : Pos) (μ : Inj) (w : World) (s : Sem Next) (v : V) (h' : H) : Prop :=
  ∃ μ' w' c r, μ.ext nx μ' ∧ nx.toNat ≤ h'.nx.toNat ∧ Sim G μ' h' w' ∧ VRel μ' v c ∧ s.run G.C.P w = .ok r w' ∧ (r = .value c ∨ (r = .skip ∧ c = Go.undef))

def GivesV (G : Gp) (nx : Pos) (μ : Inj) (w : World) (s : Sem Value) (v : V) (h' : H) : Prop :=
  ∃ μ' w' c, μ.ext nx μ' ∧ nx.toNat ≤ h'.nx.toNat ∧ Sim G μ' h' w' ∧ VRel μ' v c ∧ s.run G.C.P w = .ok c w'
def GivesU (G : Gp) (nx : Pos) (μ : Inj) (w : World) (s : Sem Unit) (h' : H) : Prop :=
  ∃ μ' w', μ.ext nx μ' ∧ nx.toNat ≤ h'.nx.toNat ∧ Sim G μ' h' w' ∧ s.run G.C.P w = .ok () w'

theorem GivesV.gives {nx : Pos} {s : Sem Value} {s' : Sem Next} {v : V} {h' : H} (hs : s' = (do pure (.value (← s)))) (g : GivesV G nx μ w s v h') : Gives G nx μ w s' v h' := by
  obtain ⟨μ', w', c, h1, h2, h3, h4, h5⟩ := g
  exact ⟨μ', w', c, _, h1, h2, h3, h4, by rw [hs]; simp [h5], .inl rfl⟩
theorem GivesU.gives {nx : Pos} {s : Sem Unit} {s' : Sem Next} {h' : H} (hs : s' = (do s; pure .skip)) (g : GivesU G nx μ w s h') : Gives G nx μ w s' AE.undef h' := by
  obtain ⟨μ', w', h1, h2, h3, h5⟩ := g
  exact ⟨μ', w', Go.undef, _, h1, h2, h3, VRel.undef _, by rw [hs]; simp [h5], .inr ⟨rfl, rfl⟩⟩

theorem Sim.same (s : Sim G μ h w) {w1 : World} (e : World.same w w1) : Sim G μ h w1 := by
  obtain ⟨e1, e2, e3, e4⟩ := e
  exact ⟨fun b l hb => (s.obj b l hb).keep (Inj.le.refl _) (fun x hx => by rw [e1]; exact hx), s.inj, s.nx, fun B hB hX => by rw [e1]; exact s.old B hB hX, by rw [e1]; exact s.size, s.wr,
    ⟨by rw [e2]; exact s.env.1, by rw [e3]; exact s.env.2.1, by rw [e4]; exact s.env.2.2⟩, s.gl⟩

/-- the world and the injection behind a new block, at a name that the heap holds already -/
theorem Makes.at (s : Sim G μ h w) {b : Pos} (hb : μ b = none) (hlt : b.toNat < h.nx.toNat) {sm : Sem Value} {a : Al} (m : Makes G μ w b sm a) (hg : h.get b = a.o) :
    ∃ l w' c, Sim G (μ.set b l) h w' ∧ VRel (μ.set b l) (a.m.val b) c ∧ sm.run G.C.P w = .ok c w' := by
  obtain ⟨w1, x, l, c, hl, hsame, hrun, ho, hv⟩ := m
  have hs1 := s.same hsame
  have hh : w1.heap = w.heap := hsame.1
  refine ⟨l, _, c, ?_, hv, hrun⟩
  have : ({ w1 with heap := w.heap.push x } : World) = { w1 with heap := w1.heap.push x } := by rw [hh]
  rw [this] at ho ⊢
  refine hs1.newAt hb a.o x l (fun c _ _ => rfl) hg ?_ (by rw [hl, hh]) ho
  intro c m hc
  by_cases e : c = b
  · subst e; exact hlt
  · rw [Inj.set_other _ _ e] at hc; exact s.nx c m hc

/-- the same, at the next name -/
theorem Makes.gives (s : Sim G μ h w) {sm : Sem Value} {a : Al} (m : Makes G μ w h.nx sm a) : GivesV G h.nx μ w sm (a.m.val h.nx) (h.add a.o) := by
  obtain ⟨w1, x, l, c, hl, hsame, hrun, ho, hv⟩ := m
  have hs1 := s.same hsame
  have hh : w1.heap = w.heap := hsame.1
  have : ({ w1 with heap := w.heap.push x } : World) = { w1 with heap := w1.heap.push x } := by rw [hh]
  rw [this] at ho hrun
  obtain ⟨hle, hs⟩ := hs1.new a.o x l (by rw [hl, hh]) ho
  exact ⟨_, _, c, Inj.ext.set l s.fresh (Nat.le_refl _), by rw [H.nx_add, Pos.toNat_succ]; omega, hs, hv, hrun⟩

theorem Makes.any (s : Sim G μ h w) {sm : Sem Value} {sn : Sem Next} (hs : sn = (do pure (.value (← sm)))) {a : Option Al} (m : ∀ x, a = some x → Makes G μ w h.nx sm x) : (newO h a).any (Gives G h.nx μ w sn) := by
  cases a with
  | none => trivial
  | some x =>
    simp only [newO]
    rw [newR_eq]
    exact ((m x rfl).gives s).gives hs
end
end Go.AE
