/-
  A part of the abstract evaluator's soundness: its operations agree with the model's. No conditions beyond the theorems' own.
-/
import Derived.Test.YtkmpjokcpboloaaGreatDoorAfF
set_option linter.unusedSimpArgs false
set_option linter.unusedVariables false
namespace Go.AE

/-! the state of a drawn region: what AE has done and the machine has not -/
def NoteK (nx0 : Pos) (nb : Nat → Pos) (μ : Inj) (t : Tr V) (h : H) (lg : List Lg) (i : Nat) (v : V) : CK → Prop
  | .pu f => f t = some v
  | .rd f => f t h = some v ∧ ∃ t', Lg.rd i f t' v ∈ lg ∧ f t' = f t
  | .al f => ∃ x, f t = some x ∧ v = x.m.val (nb i) ∧ nx0.toNat ≤ (nb i).toNat ∧ (nb i).toNat < h.nx.toNat ∧ μ (nb i) = none ∧ h.get (nb i) = x.o ∧ Lg.al i (nb i) x.o ∈ lg
  | _ => False

def Noted (nx0 : Pos) (nb : Nat → Pos) (μ : Inj) (t : Tr V) (h : H) (lg : List Lg) (c : COp) : Prop :=
  ∃ v, (∀ p, c.d = some p → t.get undef p = v) ∧ ((wantedC t c.g = false ∧ v = undef) ∨ (wantedC t c.g = true ∧ NoteK nx0 nb μ t h lg c.i v c.k))

def isAl (t : Tr V) (c : COp) : Prop := (∃ f, c.k = .al f) ∧ wantedC t c.g = true

abbrev un (listed : Array Bool) (i : Nat) : Prop := listed.getD i true = false

structure Inv (G : Gp) (n : Nat) (ops : Array Oper) (L : List COp) (nx0 : Pos) (done rest : List COp) (lg : List Lg) (t : Tr V) (ds : List D) (h : H) (listed : Array Bool) (nb : Nat → Pos) (a : Go.Act) (μ : Inj) (w : World) : Prop where
  split : L = done ++ rest
  lsz : listed.size = ops.size
  sub : ∀ c ∈ rest, un listed c.i
  eff : ∀ c ∈ done, isEf c.k = true → ¬ un listed c.i
  cl : ∀ c ∈ L, ¬ un listed c.i → ∀ j, c.bef.testBit j = true → ¬ un listed j
  asz : a.tmps.size = n
  tmp : ∀ d, (∀ c ∈ done, un listed c.i → c.d ≠ some (nm d)) → VRel μ (getT t d) (a.tmps.getD d Go.undef)
  note : ∀ c ∈ done, un listed c.i → Noted nx0 nb μ t h lg c
  inj : ∀ c ∈ done, ∀ c2 ∈ done, un listed c.i → un listed c2.i → isAl t c → isAl t c2 → nb c.i = nb c2.i → c.i = c2.i
  sim : Sim G μ h w
  nx : nx0.toNat ≤ h.nx.toNat
  ds : DRels μ ds a.defers

section
variable {C : Ctx} {n : Nat} {ops : Array Oper} {L : List COp}

theorem DR.uniq (D : DR C n ops L) {c c2 : COp} (h : c ∈ L) (h2 : c2 ∈ L) (e : c.i = c2.i) : c = c2 := by
  have key : ∀ (l : List COp), l.Pairwise (fun c c2 => c.bef.testBit c2.i = false ∧ c.i ≠ c2.i) → c ∈ l → c2 ∈ l → c = c2 := by
    intro l
    induction l with
    | nil => intro _ h; cases h
    | cons x l ih =>
      intro hp h h2
      rw [List.pairwise_cons] at hp
      cases h with
      | head =>
        cases h2 with
        | head => rfl
        | tail _ h2 => exact ((hp.1 _ h2).2 e).elim
      | tail _ h =>
        cases h2 with
        | head => exact ((hp.1 _ h).2 e.symm).elim
        | tail _ h2 => exact ih hp.2 h h2
  exact key L D.ord h h2

theorem putC_get (t : Tr V) (d : Option Pos) (v : V) (p : Pos) : (putC t d v).get undef p = if d = some p then v else t.get undef p := by
  cases d with
  | none => simp [putC_none]
  | some q =>
    rw [putC_some, Tr.get_set]
    by_cases e : p = q
    · subst e; simp
    · rw [if_neg e, if_neg (fun h => e (Option.some.inj h).symm)]

theorem putC_getT (t : Tr V) (d : Option Pos) (v : V) (i : Nat) (h : d ≠ some (nm i)) : getT (putC t d v) i = getT t i := by
  show (putC t d v).get undef (nm i) = _
  rw [putC_get, if_neg h]; rfl

/-- an operation that does not look at a place does not see what is written there -/
theorem DR.blind (D : DR C n ops L) {c : COp} (hc : c ∈ L) {dst : Option Pos} (hn : ∀ o, ops[c.i]? = some o → ∀ d ∈ looks ops.toList o, dst ≠ some (nm d)) (t : Tr V) (v : V) :
    wantedC (putC t dst v) c.g = wantedC t c.g ∧ c.k.same (putC t dst v) t := by
  obtain ⟨o, ho, hg, hd, hk⟩ := D.cop c hc
  have hn := hn o ho
  constructor
  · cases hgu : o.guard with
    | none => rw [hgu] at hg; simp only [compG, Option.some.injEq] at hg; rw [← hg]; rfl
    | some jw =>
      obtain ⟨j, want⟩ := jw
      rw [hgu] at hg
      simp only [compG] at hg
      split at hg
      · rename_i o' ho'
        split at hg
        · rename_i d hd'
          simp only [Option.some.injEq] at hg
          rw [← hg, wantedC_some, wantedC_some, putC_get, if_neg]
          refine hn d ?_
          unfold looks
          rw [List.mem_append]
          right
          simp [hgu, ho', hd']
        · cases hg
      · cases hg
  · rw [hk]
    refine compK_congr o.op fun x hx => ?_
    cases x with
    | tmp d =>
      have : d ∈ looks ops.toList o := by
        unfold looks
        rw [List.mem_append]
        left
        rw [List.mem_flatMap]
        exact ⟨.tmp d, by simpa using hx, by simp [tmpOf]⟩
      show some (getT _ d) = some (getT _ d)
      rw [putC_getT _ _ _ _ (hn d this)]
    | const c => rfl
    | global g => rfl
    | func f => rfl

theorem DR.kept (D : DR C n ops L) {c c2 : COp} (hc : c ∈ L) (hc2 : c2 ∈ L) (hne : c.i ≠ c2.i) (t : Tr V) (v : V) (p : Pos) (hp : c2.d = some p) : (putC t c.d v).get undef p = t.get undef p := by
  rw [putC_get, if_neg]
  intro e
  exact hne (D.once c hc c2 hc2 p e hp)
end

/-- a note outlives a change -/
theorem Noted.move {C : Ctx} {nx0 : Pos} {nb nb' : Nat → Pos} {μ μ' : Inj} {t t' : Tr V} {h h' : H} {lg lg' : List Lg} {c : COp}
    (hn : Noted nx0 nb μ t h lg c) (hd : ∀ p, c.d = some p → t'.get undef p = t.get undef p) (hw : wantedC t' c.g = wantedC t c.g) (hs : c.k.same t' t)
    (hrd : ∀ f t1 v, c.k = .rd f → wantedC t c.g = true → Lg.rd c.i f t1 v ∈ lg → f t1 = f t → f t h = some v → f t h' = some v)
    (hal : ∀ f x, c.k = .al f → wantedC t c.g = true → Lg.al c.i (nb c.i) x ∈ lg → μ (nb c.i) = none → (nb c.i).toNat < h.nx.toNat → h.get (nb c.i) = x →
      h'.get (nb c.i) = x ∧ μ' (nb c.i) = none ∧ nb' c.i = nb c.i)
    (hnx : h.nx.toNat ≤ h'.nx.toNat) (hlg : ∀ l ∈ lg, l ∈ lg') : Noted nx0 nb' μ' t' h' lg' c := by
  obtain ⟨v, hv, hh⟩ := hn
  refine ⟨v, fun p hp => by rw [hd p hp]; exact hv p hp, ?_⟩
  rcases hh with ⟨h1, h2⟩ | ⟨h1, h2⟩
  · exact .inl ⟨by rw [hw]; exact h1, h2⟩
  · refine .inr ⟨by rw [hw]; exact h1, ?_⟩
    cases hk : c.k with
    | pu f =>
      rw [hk] at h2 hs
      show f t' = some v
      rw [show f t' = f t from hs]; exact h2
    | rd f =>
      rw [hk] at h2 hs
      obtain ⟨e1, t1, e2, e3⟩ := h2
      have hs' : f t' = f t := hs
      exact ⟨by rw [hs']; exact hrd f t1 v hk h1 e2 e3 e1, t1, hlg _ e2, by rw [hs']; exact e3⟩
    | al f =>
      rw [hk] at h2 hs
      obtain ⟨x, e1, e2, e3, e4, e5, e6, e7⟩ := h2
      have hs' : f t' = f t := hs
      obtain ⟨g1, g2, g3⟩ := hal f x.o hk h1 e7 e5 e4 e6
      exact ⟨x, by rw [hs']; exact e1, by rw [g3]; exact e2, by rw [g3]; exact e3, by rw [g3]; omega, by rw [g3]; exact g2, by rw [g3]; exact g1, by rw [g3]; exact hlg _ e7⟩
    | no => rw [hk] at h2; exact h2.elim
    | ef f => rw [hk] at h2; exact h2.elim
    | call f => rw [hk] at h2; exact h2.elim

/-- a block that nothing knows -/
theorem Sim.addFree {G : Gp} {μ : Inj} {h : H} {w : World} (s : Sim G μ h w) (o : O) : Sim G μ (h.add o) w := by
  have hget : ∀ c, μ c ≠ none → (h.add o).get c = h.get c := by
    intro c hc
    rw [H.get_add, if_neg]
    intro e
    rw [e, s.fresh] at hc
    exact hc rfl
  refine ⟨?_, ?_, ?_, s.old, s.size, ?_, s.env, s.gl⟩
  · intro b l hb; rw [hget b (by rw [hb]; simp)]; exact s.obj b l hb
  · intro b c l m hb hc lb lc e
    rw [hget b (by rw [hb]; simp)] at lb
    rw [hget c (by rw [hc]; simp)] at lc
    exact s.inj b c l m hb hc lb lc e
  · intro b l hb; rw [H.nx_add, Pos.toNat_succ]; have := s.nx b l hb; omega
  · intro b l hb lb hN hX
    rw [hget b (by rw [hb]; simp)] at lb ⊢
    exact s.wr b l hb lb hN hX

theorem H.grows_add (h : H) (o : O) (hd : (h.get h.nx).live = false) : h.grows (h.add o) := by
  intro b hb
  rw [H.get_add, if_neg]
  intro e
  rw [e, hd] at hb
  cases hb

/-! AE's steps in a drawn region -/
theorem runDraw_nil (ex : Exec) (lg : List Lg) (t : Tr V) (ds : List D) (h : H) : runDraw ex [] lg t ds h = .ok .normal t ds h := rfl
theorem runDraw_skip (ex : Exec) (c : COp) (l : List COp) (lg : List Lg) (t : Tr V) (ds : List D) (h : H) (hw : wantedC t c.g = false) : runDraw ex (c :: l) lg t ds h = runDraw ex l lg (putC t c.d undef) ds h := by
  obtain ⟨i, bef, g, d, k⟩ := c
  have hw' : wantedC t g = false := hw
  show Bool.rec (motive := fun _ => E) _ _ (wantedC t g) = _
  rw [hw']; rfl
theorem runDraw_no (ex : Exec) (c : COp) (l : List COp) (lg : List Lg) (t : Tr V) (ds : List D) (h : H) (hw : wantedC t c.g = true) (hk : c.k = .no) : runDraw ex (c :: l) lg t ds h = .fail := by
  obtain ⟨i, bef, g, d, k⟩ := c
  have hw' : wantedC t g = true := hw
  cases hk
  show Bool.rec (motive := fun _ => E) _ _ (wantedC t g) = _
  rw [hw']
theorem runDraw_pu (ex : Exec) (c : COp) (l : List COp) (lg : List Lg) (t : Tr V) (ds : List D) (h : H) (hw : wantedC t c.g = true) {f} (hk : c.k = .pu f) : runDraw ex (c :: l) lg t ds h =
    match f t with | some v => runDraw ex l lg (putC t c.d v) ds h | none => .fail := by
  obtain ⟨i, bef, g, d, k⟩ := c
  have hw' : wantedC t g = true := hw
  cases hk
  show Bool.rec (motive := fun _ => E) _ _ (wantedC t g) = _
  rw [hw']
  show Option.rec (motive := fun _ => E) _ _ (f t) = _
  cases f t <;> rfl
theorem runDraw_rd (ex : Exec) (c : COp) (l : List COp) (lg : List Lg) (t : Tr V) (ds : List D) (h : H) (hw : wantedC t c.g = true) {f} (hk : c.k = .rd f) : runDraw ex (c :: l) lg t ds h =
    match f t h with | some v => runDraw ex l (.rd c.i f t v :: lg) (putC t c.d v) ds h | none => .fail := by
  obtain ⟨i, bef, g, d, k⟩ := c
  have hw' : wantedC t g = true := hw
  cases hk
  show Bool.rec (motive := fun _ => E) _ _ (wantedC t g) = _
  rw [hw']
  show Option.rec (motive := fun _ => E) _ _ (f t h) = _
  cases f t h <;> rfl
theorem runDraw_al (ex : Exec) (c : COp) (l : List COp) (lg : List Lg) (t : Tr V) (ds : List D) (h : H) (hw : wantedC t c.g = true) {f} (hk : c.k = .al f) : runDraw ex (c :: l) lg t ds h =
    match f t with
    | some x => match (h.get h.nx).live with
      | false => runDraw ex l (.al c.i h.nx x.o :: lg) (putC t c.d (x.m.val h.nx)) ds (h.add x.o)
      | true => .fail
    | none => .fail := by
  obtain ⟨i, bef, g, d, k⟩ := c
  have hw' : wantedC t g = true := hw
  cases hk
  show Bool.rec (motive := fun _ => E) _ _ (wantedC t g) = _
  rw [hw']
  show Option.rec (motive := fun _ => E) _ _ (f t) = _
  cases f t with
  | none => rfl
  | some x =>
    show Bool.rec (motive := fun _ => E) _ _ ((h.get h.nx).live) = _
    cases (h.get h.nx).live with
    | true => rfl
    | false => cases h; rfl
theorem runDraw_ef (ex : Exec) (c : COp) (l : List COp) (lg : List Lg) (t : Tr V) (ds : List D) (h : H) (hw : wantedC t c.g = true) (hk : isEf c.k = true) : runDraw ex (c :: l) lg t ds h =
    (stepK ex c.k t h).bindE fun v h' => match stays c.bef h' lg with | true => runDraw ex l lg (putC t c.d v) ds h' | false => .fail := by
  obtain ⟨i, bef, g, d, k⟩ := c
  have hw' : wantedC t g = true := hw
  have hb : ∀ (x : H → E) (y : H → Bool) (h' : H), (Bool.rec (motive := fun _ => E) .fail (x h') (y h')) = (match y h' with | true => x h' | false => .fail) := by
    intro x y h'; cases y h' <;> rfl
  cases k with
  | no =>
    show Bool.rec (motive := fun _ => E) _ _ (wantedC t g) = _
    rw [hw']; rfl
  | ef f =>
    show Bool.rec (motive := fun _ => E) _ _ (wantedC t g) = _
    rw [hw']
    show R.bindE _ (f t h) = R.bindE _ (f t h)
    congr 1
    funext v h'
    exact hb (fun h' => runDraw ex l lg (putC t d v) ds h') (fun h' => stays bef h' lg) h'
  | call f =>
    show Bool.rec (motive := fun _ => E) _ _ (wantedC t g) = _
    rw [hw']
    show R.bindE _ (f ex t h) = R.bindE _ (f ex t h)
    congr 1
    funext v h'
    exact hb (fun h' => runDraw ex l lg (putC t d v) ds h') (fun h' => stays bef h' lg) h'
  | pu f => cases hk
  | rd f => cases hk
  | al f => cases hk

end Go.AE
