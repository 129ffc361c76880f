/-
  A part of the abstract evaluator's soundness: its operations agree with the model's. No conditions beyond the theorems' own.
-/
import Derived.Test.YtkmpjokcpboloaaGreatDoorAfG
set_option linter.unusedSimpArgs false
set_option linter.unusedVariables false
namespace Go.AE

section
variable {G : Gp} {n : Nat} {ops : Array Oper} {L : List COp} {nx0 : Pos} {done rest : List COp} {lg : List Lg} {t : Tr V} {ds : List D} {h : H} {listed : Array Bool} {nb : Nat → Pos} {a : Go.Act} {μ : Inj} {w : World} {c : COp}

theorem Inv.mem (I : Inv G n ops L nx0 done rest lg t ds h listed nb a μ w) {c : COp} (h : c ∈ done ∨ c ∈ rest) : c ∈ L := by
  rw [I.split]; exact List.mem_append.2 h

theorem Inv.order (D : DR G.C n ops L) (I : Inv G n ops L nx0 done rest lg t ds h listed nb a μ w) {c2 c : COp} (h2 : c2 ∈ done) (h : c ∈ rest) : c2.bef.testBit c.i = false ∧ c2.i ≠ c.i := by
  have := D.ord
  rw [I.split, List.pairwise_append] at this
  exact this.2.2 c2 h2 c h

/-- AE runs a quiet operation, the machine waits -/
theorem Inv.quiet (D : DR G.C n ops L) (I : Inv G n ops L nx0 done (c :: rest) lg t ds h listed nb a μ w) (hq : isEf c.k = false) {v : V} {h' : H} {lg' : List Lg} {nb' : Nat → Pos}
    (hsim : Sim G μ h' w) (hnx : h.nx.toNat ≤ h'.nx.toNat) (hlg : ∀ l ∈ lg, l ∈ lg') (hgr : h.grows h') (hget : ∀ b, b.toNat < h.nx.toNat → h'.get b = h.get b) (hnb : ∀ i, i ≠ c.i → nb' i = nb i)
    (hnew : Noted nx0 nb' μ (putC t c.d v) h' lg' c) (hinj : isAl t c → h.nx.toNat ≤ (nb' c.i).toNat) :
    Inv G n ops L nx0 (done ++ [c]) rest lg' (putC t c.d v) ds h' listed nb' a μ w := by
  have hcL : c ∈ L := I.mem (.inr (by simp))
  have blindD : ∀ c2 ∈ done, ∀ o, ops[c2.i]? = some o → ∀ d ∈ looks ops.toList o, c.d ≠ some (nm d) := by
    intro c2 hc2 o ho d hd e
    have ho2 := I.order D hc2 (c := c) (by simp)
    rcases (D.look c2 (I.mem (.inl hc2)) c hcL o ho d hd e).2 with h1 | ⟨h1, _⟩
    · rw [ho2.1] at h1; cases h1
    · rw [hq] at h1; cases h1
  have blindC : ∀ o, ops[c.i]? = some o → ∀ d ∈ looks ops.toList o, c.d ≠ some (nm d) := by
    intro o ho d hd e
    exact (D.look c hcL c hcL o ho d hd e).1 rfl
  have hun : un listed c.i := I.sub c (by simp)
  have wantC : wantedC (putC t c.d v) c.g = wantedC t c.g := (D.blind hcL blindC t v).1
  have isAlC : isAl (putC t c.d v) c → isAl t c := fun ⟨h1, h2⟩ => ⟨h1, by rw [← wantC]; exact h2⟩
  have isAlD : ∀ c2 ∈ done, isAl (putC t c.d v) c2 → isAl t c2 := fun c2 hc2 ⟨h1, h2⟩ => ⟨h1, by rw [← (D.blind (I.mem (.inl hc2)) (blindD c2 hc2) t v).1]; exact h2⟩
  have lt_of : ∀ c2 ∈ done, un listed c2.i → isAl t c2 → (nb c2.i).toNat < h.nx.toNat := by
    intro c2 hc2 hu ⟨⟨f, hk⟩, hw⟩
    obtain ⟨v2, _, hh⟩ := I.note c2 hc2 hu
    rcases hh with ⟨h1, _⟩ | ⟨_, h2⟩
    · rw [hw] at h1; cases h1
    · rw [hk] at h2; obtain ⟨x, _, _, _, h4, _⟩ := h2; exact h4
  refine ⟨by rw [I.split]; simp, I.lsz, fun c' hc' => I.sub c' (by simp [hc']), ?_, I.cl, I.asz, ?_, ?_, ?_, hsim, Nat.le_trans I.nx hnx, I.ds⟩
  · intro c' hc' he
    rcases List.mem_append.1 hc' with h1 | h1
    · exact I.eff c' h1 he
    · rw [List.mem_singleton] at h1; subst h1; rw [hq] at he; cases he
  · intro d hd
    have hcd : c.d ≠ some (nm d) := hd c (by simp) hun
    rw [putC_getT _ _ _ _ hcd]
    exact I.tmp d fun c' hc' hu => hd c' (by simp [hc']) hu
  · intro c' hc' hu
    rcases List.mem_append.1 hc' with h1 | h1
    · have hne := (I.order D h1 (c := c) (by simp)).2
      obtain ⟨hw, hs⟩ := D.blind (I.mem (.inl h1)) (blindD c' h1) t v
      refine (I.note c' h1 hu).move (C := G.C) (fun p hp => D.kept hcL (I.mem (.inl h1)) (Ne.symm hne) t v p hp) hw hs ?_ ?_ hnx hlg
      · intro f t1 v1 hk _ _ _ hf
        obtain ⟨o, _, _, _, hko⟩ := D.cop c' (I.mem (.inl h1))
        rw [hk] at hko
        exact rd_mono hgr hko.symm hf
      · intro f x hk _ _ h5 h6 h7
        exact ⟨by rw [hget _ h6]; exact h7, h5, hnb _ hne⟩
    · rw [List.mem_singleton] at h1; subst h1; exact hnew
  · intro c1 hc1 c2 hc2 hu1 hu2 ha1 ha2 e
    rcases List.mem_append.1 hc1 with h1 | h1 <;> rcases List.mem_append.1 hc2 with h2 | h2
    · have n1 := (I.order D h1 (c := c) (by simp)).2
      have n2 := (I.order D h2 (c := c) (by simp)).2
      rw [hnb _ n1, hnb _ n2] at e
      exact I.inj c1 h1 c2 h2 hu1 hu2 (isAlD c1 h1 ha1) (isAlD c2 h2 ha2) e
    · rw [List.mem_singleton] at h2; subst h2
      have n1 := (I.order D h1 (c := c2) (by simp)).2
      rw [hnb _ n1] at e
      have := lt_of c1 h1 hu1 (isAlD c1 h1 ha1)
      have := hinj (isAlC ha2)
      rw [e] at *
      omega
    · rw [List.mem_singleton] at h1; subst h1
      have n2 := (I.order D h2 (c := c1) (by simp)).2
      rw [hnb _ n2] at e
      have := lt_of c2 h2 hu2 (isAlD c2 h2 ha2)
      have := hinj (isAlC ha1)
      rw [← e] at *
      omega
    · rw [List.mem_singleton] at h1 h2; subst h1; subst h2; rfl

theorem same_refl (k : CK) (t : Tr V) : k.same t t := by cases k <;> first | rfl | trivial | (intro _; rfl)

theorem quiet_step (ex : Exec) (D : DR G.C n ops L) (I : Inv G n ops L nx0 done (c :: rest) lg t ds h listed nb a μ w) (hq : isEf c.k = false) :
    runDraw ex (c :: rest) lg t ds h = .fail ∨ ∃ lg' t' h' nb', runDraw ex (c :: rest) lg t ds h = runDraw ex rest lg' t' ds h' ∧ Inv G n ops L nx0 (done ++ [c]) rest lg' t' ds h' listed nb' a μ w := by
  have hcL : c ∈ L := I.mem (.inr (by simp))
  have blindC : ∀ o, ops[c.i]? = some o → ∀ d ∈ looks ops.toList o, c.d ≠ some (nm d) := by
    intro o ho d hd e
    exact (D.look c hcL c hcL o ho d hd e).1 rfl
  have got : ∀ v p, c.d = some p → (putC t c.d v).get undef p = v := fun v p hp => by rw [putC_get, if_pos hp]
  have hgr : h.grows h := fun b _ => rfl
  cases hw : wantedC t c.g with
  | false =>
    refine .inr ⟨lg, _, h, nb, runDraw_skip ex c rest lg t ds h hw, I.quiet D hq I.sim (Nat.le_refl _) (fun l hl => hl) hgr (fun _ _ => rfl) (fun _ _ => rfl) ?_ ?_⟩
    · exact ⟨undef, got _, .inl ⟨by rw [(D.blind hcL blindC t undef).1]; exact hw, rfl⟩⟩
    · rintro ⟨_, h2⟩; rw [hw] at h2; cases h2
  | true =>
    cases hk : c.k with
    | no => exact .inl (runDraw_no ex c rest lg t ds h hw hk)
    | ef f => rw [hk] at hq; cases hq
    | call f => rw [hk] at hq; cases hq
    | pu f =>
      cases hf : f t with
      | none => left; rw [runDraw_pu ex c rest lg t ds h hw hk, hf]
      | some v =>
        refine .inr ⟨lg, putC t c.d v, h, nb, by rw [runDraw_pu ex c rest lg t ds h hw hk, hf], I.quiet D hq I.sim (Nat.le_refl _) (fun l hl => hl) hgr (fun _ _ => rfl) (fun _ _ => rfl) ?_ ?_⟩
        · obtain ⟨b1, b2⟩ := D.blind hcL blindC t v
          refine ⟨v, got v, .inr ⟨by rw [b1]; exact hw, ?_⟩⟩
          rw [hk] at b2 ⊢
          show f _ = some v
          rw [show f (putC t c.d v) = f t from b2]; exact hf
        · rintro ⟨⟨g, h1⟩, _⟩; rw [hk] at h1; cases h1
    | rd f =>
      cases hf : f t h with
      | none => left; rw [runDraw_rd ex c rest lg t ds h hw hk, hf]
      | some v =>
        refine .inr ⟨.rd c.i f t v :: lg, putC t c.d v, h, nb, by rw [runDraw_rd ex c rest lg t ds h hw hk, hf], I.quiet D hq I.sim (Nat.le_refl _) (fun l hl => by simp [hl]) hgr (fun _ _ => rfl) (fun _ _ => rfl) ?_ ?_⟩
        · obtain ⟨b1, b2⟩ := D.blind hcL blindC t v
          refine ⟨v, got v, .inr ⟨by rw [b1]; exact hw, ?_⟩⟩
          rw [hk] at b2 ⊢
          have b2 : f (putC t c.d v) = f t := b2
          exact ⟨by rw [b2]; exact hf, t, by simp, b2.symm⟩
        · rintro ⟨⟨g, h1⟩, _⟩; rw [hk] at h1; cases h1
    | al f =>
      cases hf : f t with
      | none => left; rw [runDraw_al ex c rest lg t ds h hw hk, hf]
      | some x =>
        cases hl : (h.get h.nx).live with
        | true => left; rw [runDraw_al ex c rest lg t ds h hw hk, hf]; simp only [hl]
        | false =>
          have hnext : (h.add x.o).nx.toNat = h.nx.toNat + 1 := by rw [H.nx_add, Pos.toNat_succ]
          refine .inr ⟨.al c.i h.nx x.o :: lg, putC t c.d (x.m.val h.nx), h.add x.o, (fun i => if i = c.i then h.nx else nb i), by rw [runDraw_al ex c rest lg t ds h hw hk, hf]; simp only [hl],
            I.quiet D hq (I.sim.addFree x.o) (by omega) (fun l hl => by simp [hl]) (H.grows_add h x.o hl) ?_ (fun i hi => by simp [hi]) ?_ ?_⟩
          · intro b hb
            rw [H.get_add, if_neg]
            intro e; rw [e] at hb; omega
          · obtain ⟨b1, b2⟩ := D.blind hcL blindC t (x.m.val h.nx)
            refine ⟨x.m.val h.nx, got _, .inr ⟨by rw [b1]; exact hw, ?_⟩⟩
            rw [hk] at b2 ⊢
            have b2 : f (putC t c.d (x.m.val h.nx)) = f t := b2
            refine ⟨x, by rw [b2]; exact hf, by simp, by simp; exact I.nx, by simp; omega, by simp; exact I.sim.fresh, by simp [H.get_add], by simp⟩
          · intro _; simp

/-- AE runs on to the next effect -/
theorem settle (ex : Exec) (Dr : DR G.C n ops L) {Q : Ex → Tr V → List D → H → Prop} : ∀ (rest done : List COp) (lg : List Lg) (t : Tr V) (h : H) (nb : Nat → Pos),
    Inv G n ops L nx0 done rest lg t ds h listed nb a μ w →
    (∀ done rest lg t h nb, Inv G n ops L nx0 done rest lg t ds h listed nb a μ w → (∀ c rest', rest = c :: rest' → isEf c.k = true) → (runDraw ex rest lg t ds h).any Q) →
    (runDraw ex rest lg t ds h).any Q
  | [], done, lg, t, h, nb, I, H => H done [] lg t h nb I (fun _ _ e => by cases e)
  | c :: rest, done, lg, t, h, nb, I, H => by
    cases hq : isEf c.k with
    | true => exact H done (c :: rest) lg t h nb I (fun _ _ e => by cases e; exact hq)
    | false =>
      rcases quiet_step ex Dr I hq with hf | ⟨lg', t', h', nb', he, I'⟩
      · rw [hf]; trivial
      · rw [he]; exact settle ex Dr rest (done ++ [c]) lg' t' h' nb' I' H
end
end Go.AE
