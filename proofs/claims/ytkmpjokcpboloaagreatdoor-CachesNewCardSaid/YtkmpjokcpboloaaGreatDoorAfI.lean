/-
  A part of the abstract evaluator's soundness: its operations agree with the model's. No conditions beyond the theorems' own.
-/
import Derived.Test.YtkmpjokcpboloaaGreatDoorAfH
set_option linter.unusedSimpArgs false
set_option linter.unusedVariables false
namespace Go.AE

/-! an operation that looks at related places alone -/
theorem restrict {C : Ctx} {μ : Inj} {t : Tr V} {a : Go.Act} (hg : ∀ g, C.gl g = true → ∃ l, μ (nm g) = some l ∧ l.blk = g ∧ l.base = 0) (S : List Nat) (hS : ∀ d ∈ S, VRel μ (getT t d) (a.tmps.getD d Go.undef)) :
    ∃ (tr : Tr V) (ar : Go.Act), OR C μ tr ar.eval ∧ ∀ x, (∀ d, x = .tmp d → d ∈ S) → opd C tr x = opd C t x ∧ ar.eval x = a.eval x := by
  have h1 : ∀ (S : List Nat) (i : Nat), getT (S.foldr (fun d (t' : Tr V) => t'.set undef (nm d) (getT t d)) .nil) i = if i ∈ S then getT t i else undef := by
    intro S i
    induction S with
    | nil => simp [getT_nil]
    | cons d S ih =>
      rw [List.foldr_cons, getT_set, ih]
      by_cases e : i = d
      · subst e; simp
      · simp [e]
  let tr : Tr V := S.foldr (fun d (t' : Tr V) => t'.set undef (nm d) (getT t d)) .nil
  let ar : Go.Act := ⟨(Array.range a.tmps.size).map fun i => if i ∈ S then a.tmps.getD i Go.undef else Go.undef, []⟩
  have h2 : ∀ i, ar.tmps.getD i Go.undef = if i ∈ S then a.tmps.getD i Go.undef else Go.undef := by
    intro i
    show ((Array.range a.tmps.size).map _).getD i Go.undef = _
    rw [Array.getD_eq_getD_getElem?, Array.getElem?_map]
    by_cases hi : i < a.tmps.size
    · rw [Array.getElem?_range, if_pos hi]; rfl
    · rw [Array.getElem?_range, if_neg hi]
      have : a.tmps.getD i Go.undef = Go.undef := by rw [Array.getD_eq_getD_getElem?, Array.getElem?_eq_none (by omega)]; rfl
      rw [this]; simp
  have ht : TRel μ a.tmps.size tr ar.tmps := by
    refine ⟨by simp [ar], fun i => ?_⟩
    rw [h2, h1]
    by_cases hi : i ∈ S
    · rw [if_pos hi, if_pos hi]; exact hS i hi
    · rw [if_neg hi, if_neg hi]; exact VRel.undef _
  refine ⟨tr, ar, opd_rel ht hg, fun x hx => ?_⟩
  cases x with
  | tmp d =>
    have hd := hx d rfl
    constructor
    · show some (getT tr d) = some (getT t d)
      rw [h1, if_pos hd]
    · show ar.tmps.getD d Go.undef = a.tmps.getD d Go.undef
      rw [h2, if_pos hd]
  | const c => exact ⟨rfl, rfl⟩
  | global g => exact ⟨rfl, rfl⟩
  | func f => exact ⟨rfl, rfl⟩

theorem operand_looks {ops : List Oper} {o : Oper} {x : Operand} (hx : x ∈ o.op.operands) (d : Nat) (e : x = .tmp d) : d ∈ looks ops o := by
  subst e
  unfold looks
  rw [List.mem_append]
  left
  rw [List.mem_flatMap]
  exact ⟨.tmp d, by simpa using hx, by simp [tmpOf]⟩
theorem guard_looks {ops : Array Oper} {o : Oper} {j : Nat} {want : Bool} {d : Nat} (hg : o.guard = some (j, want)) (hd : (ops[j]?).bind (·.dst) = some d) : d ∈ looks ops.toList o := by
  unfold looks
  rw [List.mem_append]
  right
  rw [hg]
  cases hj : ops[j]? with
  | none => rw [hj] at hd; cases hd
  | some p =>
    rw [hj] at hd
    have : ops.toList[j]? = some p := by simpa using hj
    simp only [this]
    have hd : p.dst = some d := hd
    simp [hd]

section
variable {G : Gp} {n : Nat} {ops : Array Oper} {L : List COp} {nx0 : Pos} {done rest : List COp} {lg : List Lg} {t : Tr V} {ds : List D} {h : H} {listed : Array Bool} {nb : Nat → Pos} {a : Go.Act} {μ : Inj} {w : World} {c : COp}

theorem un_set {listed : Array Bool} {i j : Nat} (hi : i < listed.size) : un (listed.setIfInBounds i true) j ↔ un listed j ∧ j ≠ i := by
  unfold un
  by_cases e : j = i
  · subst e
    simp [hi]
  · rw [getD_set_ne true (Ne.symm e)]
    simp [e]
theorem un_lt {listed : Array Bool} {j : Nat} (h : un listed j) : j < listed.size := by
  rcases Nat.lt_or_ge j listed.size with h' | h'
  · exact h'
  · unfold un at h; simp [Array.getElem?_eq_none h'] at h

theorem Inv.looked (Dr : DR G.C n ops L) (I : Inv G n ops L nx0 done rest lg t ds h listed nb a μ w) {c : COp} (hc : c ∈ L) (hready : ∀ j, c.bef.testBit j = true → ¬ un listed j) {o : Oper} (ho : ops[c.i]? = some o) :
    ∀ d ∈ looks ops.toList o, VRel μ (getT t d) (a.tmps.getD d Go.undef) := by
  intro d hd
  refine I.tmp d fun c2 hc2 hu e => ?_
  rcases (Dr.look c hc c2 (I.mem (.inl hc2)) o ho d hd e).2 with h1 | ⟨h1, _⟩
  · exact hready _ h1 hu
  · exact I.eff c2 hc2 h1 hu

theorem put_getD (a : Go.Act) (dst : Option Tmp) (x : Value) (d : Nat) (h : dst ≠ some d) : (a.put dst x).tmps.getD d Go.undef = a.tmps.getD d Go.undef := by
  cases dst with
  | none => rfl
  | some e =>
    have hne : e ≠ d := fun he => h (by rw [he])
    simp [Act.put, Array.getElem?_setIfInBounds_ne hne]
theorem put_size (a : Go.Act) (dst : Option Tmp) (x : Value) : (a.put dst x).tmps.size = a.tmps.size := by
  cases dst with
  | none => rfl
  | some e => simp [Act.put]

/-- the machine runs a quiet operation that AE has run -/
theorem Inv.caught (Dr : DR G.C n ops L) (I : Inv G n ops L nx0 done rest lg t ds h listed nb a μ w) {c : COp} (hc : c ∈ done) (hun : un listed c.i) (hready : ∀ j, c.bef.testBit j = true → ¬ un listed j) {v : V} {x : Value} {μ' : Inj} {w' : World}
    (hv : ∀ p, c.d = some p → t.get undef p = v) (hle : μ.le μ') (hrel : VRel μ' v x) (hsim : Sim G μ' h w') (hμ : ∀ c2 ∈ done, un listed c2.i → c2.i ≠ c.i → isAl t c2 → μ' (nb c2.i) = none) {o : Oper} (ho : ops[c.i]? = some o) :
    Inv G n ops L nx0 done rest lg t ds h (listed.setIfInBounds c.i true) nb (a.put o.dst x) μ' w' := by
  have hcL := I.mem (.inl hc)
  have hlt : c.i < listed.size := un_lt hun
  have hu := fun j => un_set (j := j) hlt
  obtain ⟨o', ho', _, hd, _⟩ := Dr.cop c hcL
  rw [ho] at ho'; cases ho'
  refine ⟨I.split, by rw [Array.size_setIfInBounds]; exact I.lsz, ?_, ?_, ?_, by rw [put_size]; exact I.asz, ?_, ?_, ?_, hsim, I.nx, by rw [put_defers]; exact I.ds.mono hle⟩
  · intro c2 hc2
    rw [hu]
    exact ⟨I.sub c2 hc2, Ne.symm (I.order Dr hc hc2).2⟩
  · intro c2 hc2 he hu2
    rw [hu] at hu2
    exact I.eff c2 hc2 he hu2.1
  · intro c2 hc2 hu2 j hj huj
    rw [hu] at hu2 huj
    by_cases e : c2.i = c.i
    · have := Dr.uniq hc2 hcL e
      subst this
      exact hready j hj huj.1
    · exact I.cl c2 hc2 (fun h => hu2 ⟨h, e⟩) j hj huj.1
  · intro d hdd
    by_cases e : c.d = some (nm d)
    · have hdst := compD_some (by rw [hd, e])
      have hdn : d < n := by
        rw [hdst, e] at hd
        simp only [compD] at hd
        split at hd
        · rename_i h; rw [bltN, decide_eq_true_eq] at h; exact h
        · cases hd
      have hg : getT t d = v := hv _ e
      rw [hg]
      have : (a.put o.dst x).tmps.getD d Go.undef = x := by
        rw [hdst]
        have := I.asz
        simp [Act.put, show d < a.tmps.size by omega]
      rw [this]; exact hrel
    · rw [put_getD _ _ _ _ (fun e' => e (by
        rw [e'] at hd
        simp only [compD] at hd
        split at hd
        · exact (Option.some.inj hd).symm
        · cases hd))]
      refine VRel.mono hle _ _ (I.tmp d fun c2 hc2 hu2 e2 => ?_)
      by_cases ei : c2.i = c.i
      · have := Dr.uniq (I.mem (.inl hc2)) hcL ei
        subst this; exact e e2
      · exact hdd c2 hc2 ((hu _).2 ⟨hu2, ei⟩) e2
  · intro c2 hc2 hu2
    obtain ⟨h1, h2⟩ := (hu _).1 hu2
    refine (I.note c2 hc2 h1).move (C := G.C) (fun _ _ => rfl) rfl (same_refl _ _) (fun f _ _ _ _ _ _ h => h) ?_ (Nat.le_refl _) (fun l hl => hl)
    intro f y hk hw _ _ _ hg
    exact ⟨hg, hμ c2 hc2 h1 h2 ⟨⟨f, hk⟩, hw⟩, rfl⟩
  · intro c1 hc1 c2 hc2 hu1 hu2
    exact I.inj c1 hc1 c2 hc2 ((hu _).1 hu1).1 ((hu _).1 hu2).1

/-- both run an effect -/
theorem Inv.both (Dr : DR G.C n ops L) (I : Inv G n ops L nx0 done (c :: rest) lg t ds h listed nb a μ w) (hef : isEf c.k = true) (hready : ∀ j, c.bef.testBit j = true → ¬ un listed j) {v : V} {x : Value} {μ' : Inj} {w' : World} {h' : H}
    (hext : μ.ext h.nx μ') (hnx : h.nx.toNat ≤ h'.nx.toNat) (hrel : VRel μ' v x) (hsim : Sim G μ' h' w')
    (hrd : ∀ c2 ∈ done, un listed c2.i → ∀ f t1 v2, Lg.rd c2.i f t1 v2 ∈ lg → f t1 = f t → f t h = some v2 → f t h' = some v2)
    (hal : ∀ c2 ∈ done, un listed c2.i → ∀ b y, Lg.al c2.i b y ∈ lg → h.get b = y → h'.get b = y) {o : Oper} (ho : ops[c.i]? = some o) :
    Inv G n ops L nx0 (done ++ [c]) rest lg (putC t c.d v) ds h' (listed.setIfInBounds c.i true) nb (a.put o.dst x) μ' w' := by
  have hcL := I.mem (c := c) (.inr (by simp))
  have hun : un listed c.i := I.sub c (by simp)
  have hlt : c.i < listed.size := un_lt hun
  have hu := fun j => un_set (j := j) hlt
  obtain ⟨o', ho', _, hd, _⟩ := Dr.cop c hcL
  rw [ho] at ho'; cases ho'
  have blindD : ∀ c2 ∈ done, un listed c2.i → ∀ o, ops[c2.i]? = some o → ∀ d ∈ looks ops.toList o, c.d ≠ some (nm d) := by
    intro c2 hc2 hu2 o ho d hd e
    rcases (Dr.look c2 (I.mem (.inl hc2)) c hcL o ho d hd e).2 with h1 | ⟨_, h1⟩
    · rw [(I.order Dr hc2 (c := c) (by simp)).1] at h1; cases h1
    · exact hready _ h1 hu2
  have restne : ∀ c2 ∈ rest, c2.i ≠ c.i := by
    intro c2 hc2
    have := Dr.ord
    rw [I.split, List.pairwise_append] at this
    have := this.2.1
    rw [List.pairwise_cons] at this
    exact Ne.symm (this.1 c2 hc2).2
  have inD : ∀ c2 ∈ done ++ [c], un (listed.setIfInBounds c.i true) c2.i → c2 ∈ done ∧ un listed c2.i ∧ c2.i ≠ c.i := by
    intro c2 hc2 hu2
    obtain ⟨h1, h2⟩ := (hu _).1 hu2
    rcases List.mem_append.1 hc2 with h3 | h3
    · exact ⟨h3, h1, h2⟩
    · rw [List.mem_singleton] at h3; subst h3; exact (h2 rfl).elim
  have isAlD : ∀ c2 ∈ done, un listed c2.i → isAl (putC t c.d v) c2 → isAl t c2 := fun c2 hc2 hu2 ⟨h1, h2⟩ => ⟨h1, by rw [← (Dr.blind (I.mem (.inl hc2)) (blindD c2 hc2 hu2) t v).1]; exact h2⟩
  refine ⟨by rw [I.split]; simp, by rw [Array.size_setIfInBounds]; exact I.lsz, ?_, ?_, ?_, by rw [put_size]; exact I.asz, ?_, ?_, ?_, hsim, Nat.le_trans I.nx hnx, by rw [put_defers]; exact I.ds.mono hext.1⟩
  · intro c2 hc2
    rw [hu]
    exact ⟨I.sub c2 (by simp [hc2]), restne c2 hc2⟩
  · intro c2 hc2 he hu2
    obtain ⟨h1, h2, _⟩ := inD c2 hc2 hu2
    exact I.eff c2 h1 he h2
  · intro c2 hc2 hu2 j hj huj
    rw [hu] at hu2 huj
    by_cases e : c2.i = c.i
    · have := Dr.uniq hc2 hcL e
      subst this
      exact hready j hj huj.1
    · exact I.cl c2 hc2 (fun h => hu2 ⟨h, e⟩) j hj huj.1
  · intro d hdd
    by_cases e : c.d = some (nm d)
    · have hdst := compD_some (by rw [hd, e])
      have hdn : d < n := by
        rw [hdst, e] at hd
        simp only [compD] at hd
        split at hd
        · rename_i h; rw [bltN, decide_eq_true_eq] at h; exact h
        · cases hd
      have hg : getT (putC t c.d v) d = v := by
        show (putC t c.d v).get undef (nm d) = v
        rw [putC_get, if_pos e]
      rw [hg]
      have : (a.put o.dst x).tmps.getD d Go.undef = x := by
        rw [hdst]
        have := I.asz
        simp [Act.put, show d < a.tmps.size by omega]
      rw [this]; exact hrel
    · rw [putC_getT _ _ _ _ e, put_getD _ _ _ _ (fun e' => e (by
        rw [e'] at hd
        simp only [compD] at hd
        split at hd
        · exact (Option.some.inj hd).symm
        · cases hd))]
      refine VRel.mono hext.1 _ _ (I.tmp d fun c2 hc2 hu2 e2 => ?_)
      exact hdd c2 (by simp [hc2]) ((hu _).2 ⟨hu2, (I.order Dr hc2 (c := c) (by simp)).2⟩) e2
  · intro c2 hc2 hu2
    obtain ⟨h1, h2, h3⟩ := inD c2 hc2 hu2
    obtain ⟨hw, hs⟩ := Dr.blind (I.mem (.inl h1)) (blindD c2 h1 h2) t v
    refine (I.note c2 h1 h2).move (C := G.C) (fun p hp => Dr.kept hcL (I.mem (.inl h1)) (Ne.symm h3) t v p hp) hw hs ?_ ?_ hnx (fun l hl => hl)
    · intro f t1 v1 hk _ hl he hf
      exact hrd c2 h1 h2 f t1 v1 hl he hf
    · intro f y hk _ hl h5 h6 h7
      refine ⟨hal c2 h1 h2 _ y hl h7, ?_, rfl⟩
      cases hμ : μ' (nb c2.i) with
      | none => rfl
      | some l =>
        have := hext.2 (nb c2.i) h5 (by rw [hμ]; simp)
        omega
  · intro c1 hc1 c2 hc2 hu1 hu2 ha1 ha2 e
    obtain ⟨g1, g2, _⟩ := inD c1 hc1 hu1
    obtain ⟨k1, k2, _⟩ := inD c2 hc2 hu2
    exact I.inj c1 g1 c2 k1 g2 k2 (isAlD c1 g1 g2 ha1) (isAlD c2 k1 k2 ha2) e
end
end Go.AE
