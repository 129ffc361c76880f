/-
  A part of the abstract evaluator's soundness: its operations agree with the model's. No conditions beyond the theorems' own.
-/
import Derived.Test.YtkmpjokcpboloaaGreatDoorAfI
set_option linter.unusedSimpArgs false
set_option linter.unusedVariables false
namespace Go.AE

section
variable {G : Gp} {n : Nat} {ops : Array Oper} {L : List COp} {nx0 : Pos} {done rest : List COp} {lg : List Lg} {t : Tr V} {ds : List D} {h : H} {listed : Array Bool} {nb : Nat → Pos} {a : Go.Act} {μ : Inj} {w : World} {c : COp}
  {b : Frame} {k : List Item} {cs : List Frame}

theorem stays_spec {bef : Nat} {h : H} : ∀ {lg : List Lg}, stays bef h lg = true → ∀ l ∈ lg, bef.testBit l.i = true ∨ l.holds h = true
  | [], _, l, hl => by cases hl
  | x :: lg, hs, l, hl => by
    simp only [stays] at hs
    split at hs
    · rename_i hb
      cases hl with
      | head => exact .inl hb
      | tail _ hl => exact stays_spec hs l hl
    · split at hs
      · rename_i hh
        cases hl with
        | head => exact .inr hh
        | tail _ hl => exact stays_spec hs l hl
      · cases hs

theorem Inv.guarded (Dr : DR G.C n ops L) {c : COp} (hc : c ∈ L) {o : Oper} (ho : ops[c.i]? = some o) (hl : ∀ d ∈ looks ops.toList o, VRel μ (getT t d) (a.tmps.getD d Go.undef)) :
    wantedC t c.g = Region.wanted o (yielded ops a.tmps) := by
  obtain ⟨o', ho', hg, _, _⟩ := Dr.cop c hc
  rw [ho] at ho'; cases ho'
  exact wanted_rel hg fun j want d hgu hd => hl d (guard_looks hgu hd)

theorem machine_skip {i : Nat} {todo : List Nat} {o : Oper} (ho : ops[i]? = some o) (hw : Region.wanted o (yielded ops a.tmps) = false) :
    Steps G.C.P (lone (b.atR a (.inRegion ops (i :: todo) :: k)) cs w) (lone (b.atR (a.put o.dst Go.undef) (.inRegion ops todo :: k)) cs w) := by
  have hs := stepR_op_skip (P := G.C.P) (b := b) (a := a) (k := k) (cs := cs) (w := w) (ops := ops) (i := i) (rest := todo) (by rw [ho]; simpa using hw)
  rw [ho] at hs
  exact .one hs

/-- the machine catches up -/
theorem machine_quiet (Dr : DR G.C n ops L) (I : Inv G n ops L nx0 done rest lg t ds h listed nb a μ w) {c : COp} (hc : c ∈ done) (hun : un listed c.i) (hready : ∀ j, c.bef.testBit j = true → ¬ un listed j) (todo : List Nat) :
    ∃ a' μ' w', Steps G.C.P (lone (b.atR a (.inRegion ops (c.i :: todo) :: k)) cs w) (lone (b.atR a' (.inRegion ops todo :: k)) cs w') ∧ μ.ext nx0 μ' ∧
      Inv G n ops L nx0 done rest lg t ds h (listed.setIfInBounds c.i true) nb a' μ' w' := by
  have hcL := I.mem (.inl hc)
  obtain ⟨o, ho, hg, hd, hk⟩ := Dr.cop c hcL
  have hl := I.looked Dr hcL hready ho
  have hwant := Inv.guarded Dr hcL ho hl
  obtain ⟨tr, ar, hor, hx⟩ := restrict (C := G.C) (t := t) (a := a) I.sim.gl (looks ops.toList o) hl
  have hopd : ∀ x ∈ o.op.operands, opd G.C tr x = opd G.C t x := fun x hxo => (hx x fun d e => operand_looks hxo d e).1
  have hsame : c.k.same tr t := by rw [hk]; exact compK_congr o.op hopd
  have hex : execOp ar.eval o = execOp a.eval o := execOp_congr o (Dr.sel c.i o ho) fun x hxo => (hx x fun d e => operand_looks hxo d e).2
  have none_of : ∀ c2 ∈ done, un listed c2.i → isAl t c2 → μ (nb c2.i) = none := by
    intro c2 hc2 hu2 ⟨⟨f, hk2⟩, hw2⟩
    obtain ⟨v2, _, hh⟩ := I.note c2 hc2 hu2
    rcases hh with ⟨h1, _⟩ | ⟨_, h2⟩
    · rw [hw2] at h1; cases h1
    · rw [hk2] at h2; obtain ⟨x, _, _, _, _, h5, _⟩ := h2; exact h5
  obtain ⟨v, hv, hh⟩ := I.note c hc hun
  rcases hh with ⟨hw, rfl⟩ | ⟨hw, hn⟩
  · refine ⟨a.put o.dst Go.undef, μ, w, machine_skip (G := G) ho (by rw [← hwant]; exact hw), Inj.ext.refl _ _, ?_⟩
    exact I.caught Dr hc hun hready hv (Inj.le.refl _) (VRel.undef _) I.sim (fun c2 h1 h2 _ h4 => none_of c2 h1 h2 h4) ho
  · have hw' : Region.wanted o (yielded ops a.tmps) = true := by rw [← hwant]; exact hw
    have fin : ∀ {x : Value} {μ' : Inj} {w' : World}, compK G.C o.op ≠ .no → (execOp ar.eval o).run G.C.P w = .ok (.value x) w' → μ.ext nx0 μ' → VRel μ' v x → Sim G μ' h w' →
        (∀ c2 ∈ done, un listed c2.i → c2.i ≠ c.i → isAl t c2 → μ' (nb c2.i) = none) → _ := fun {x μ' w'} hno hrun hext hrel hsim hμ =>
      (⟨a.put o.dst x, μ', w', op_step ho hw' (not_defer hno) (Goes.value (by rw [← hex]; exact hrun)), hext, I.caught Dr hc hun hready hv hext.1 hrel hsim hμ ho⟩ :
        ∃ a' μ' w', Steps G.C.P (lone (b.atR a (.inRegion ops (c.i :: todo) :: k)) cs w) (lone (b.atR a' (.inRegion ops todo :: k)) cs w') ∧ μ.ext nx0 μ' ∧
        Inv G n ops L nx0 done rest lg t ds h (listed.setIfInBounds c.i true) nb a' μ' w')
    cases hkk : c.k with
    | no => rw [hkk] at hn; exact hn.elim
    | ef f => rw [hkk] at hn; exact hn.elim
    | call f => rw [hkk] at hn; exact hn.elim
    | pu f =>
      rw [hkk] at hn hsame hk
      have hf : f tr = some v := by rw [show f tr = f t from hsame]; exact hn
      obtain ⟨x, hrel, hp⟩ := pu_rel hk.symm hor hf
      exact fin (by rw [← hk]; simp) (hp w) (Inj.ext.refl _ _) hrel I.sim (fun c2 h1 h2 _ h4 => none_of c2 h1 h2 h4)
    | rd f =>
      rw [hkk] at hn hsame hk
      have hf : f tr h = some v := by rw [show f tr = f t from hsame]; exact hn.1
      obtain ⟨x, hrel, hp⟩ := rd_rel I.sim hk.symm hor hf
      exact fin (by rw [← hk]; simp) hp (Inj.ext.refl _ _) hrel I.sim (fun c2 h1 h2 _ h4 => none_of c2 h1 h2 h4)
    | al f =>
      rw [hkk] at hn hsame hk
      obtain ⟨x, e1, rfl, e3, e4, e5, e6, e7⟩ := hn
      have hf : f tr = some x := by rw [show f tr = f t from hsame]; exact e1
      obtain ⟨sm, he, hm⟩ := al_rel (w := w) e5 hk.symm hor hf
      obtain ⟨l, w', y, s', hrel, hrun⟩ := hm.at I.sim e5 e4 e6
      refine fin (by rw [← hk]; simp) (x := y) (w' := w') (by rw [he]; simp [hrun]) (Inj.ext.set l e5 e3) hrel s' ?_
      intro c2 h1 h2 h3 h4
      rw [Inj.set_other]
      · exact none_of c2 h1 h2 h4
      · intro e
        exact h3 (I.inj c2 h1 c hc h2 hun h4 ⟨⟨f, hkk⟩, hw⟩ e)

/-- both run the next effect -/
theorem machine_effect {ex : Exec} (hC : CtxOk G.C) (hex' : ExOk G ex) (Dr : DR G.C n ops L) (I : Inv G n ops L nx0 done (c :: rest) lg t ds h listed nb a μ w) (hef : isEf c.k = true) (hready : ∀ j, c.bef.testBit j = true → ¬ un listed j) (todo : List Nat)
    {Q : Ex → Tr V → List D → H → Prop}
    (H : ∀ t' h' a' μ' w', Steps G.C.P (lone (b.atR a (.inRegion ops (c.i :: todo) :: k)) cs w) (lone (b.atR a' (.inRegion ops todo :: k)) cs w') → μ.ext nx0 μ' →
      Inv G n ops L nx0 (done ++ [c]) rest lg t' ds h' (listed.setIfInBounds c.i true) nb a' μ' w' → (runDraw ex rest lg t' ds h').any Q) :
    (runDraw ex (c :: rest) lg t ds h).any Q := by
  have hcL := I.mem (c := c) (.inr (by simp))
  obtain ⟨o, ho, hg, hd, hk⟩ := Dr.cop c hcL
  have hl := I.looked Dr hcL hready ho
  have hwant := Inv.guarded Dr hcL ho hl
  cases hw : wantedC t c.g with
  | false =>
    rw [runDraw_skip _ _ _ _ _ _ _ hw]
    refine H _ h (a.put o.dst Go.undef) μ w (machine_skip (G := G) ho (by rw [← hwant]; exact hw)) (Inj.ext.refl _ _) ?_
    exact I.both Dr hef hready (Inj.ext.refl _ _) (Nat.le_refl _) (VRel.undef _) I.sim (fun _ _ _ _ _ _ _ _ h => h) (fun _ _ _ _ _ _ h => h) ho
  | true =>
    have hw' : Region.wanted o (yielded ops a.tmps) = true := by rw [← hwant]; exact hw
    rw [runDraw_ef _ _ _ _ _ _ _ hw hef]
    by_cases hno : compK G.C o.op = .no
    · rw [hk, hno]; trivial
    obtain ⟨tr, ar, hor, hx⟩ := restrict (C := G.C) (t := t) (a := a) I.sim.gl (looks ops.toList o) hl
    have hopd : ∀ x ∈ o.op.operands, opd G.C tr x = opd G.C t x := fun x hxo => (hx x fun d e => operand_looks hxo d e).1
    have hsame : c.k.same tr t := by rw [hk]; exact compK_congr o.op hopd
    have hex : execOp ar.eval o = execOp a.eval o := execOp_congr o (Dr.sel c.i o ho) fun x hxo => (hx x fun d e => operand_looks hxo d e).2
    refine R.any_bindE _ ?_
    have hfr : FrOk (b.atR a (.inRegion ops (c.i :: todo) :: k)) := trivial
    have h0 := op_rel (cs := cs) hfr hC hex' I.sim (o := o) hor
    rw [← hk, stepK_same hsame h, hex] at h0
    refine R.any_mono ?_ _ h0
    rintro v h' ⟨μ', w', x, h1, h2, h3, h4, h5⟩
    cases hst : stays c.bef h' lg with
    | false => trivial
    | true =>
      have hsp := stays_spec hst
      refine H _ h' (a.put o.dst x) μ' w' (op_step ho hw' (not_defer hno) h5) ⟨h1.1, fun p hp hp' => Nat.le_trans I.nx (h1.2 p hp hp')⟩ ?_
      refine I.both Dr hef hready h1 h2 h4 h3 ?_ ?_ ho
      · intro c2 hc2 hu2 f t1 v2 hl hft hf
        rcases hsp _ hl with h6 | h6
        · exact (hready _ h6 hu2).elim
        · simp only [Lg.holds] at h6
          split at h6
          · rename_i v3 hv3
            rw [← hft, hv3, V.beq_eq' _ _ _ h6]
          · cases h6
      · intro c2 hc2 hu2 b' y hl hy
        rcases hsp _ hl with h6 | h6
        · exact (hready _ h6 hu2).elim
        · exact O.beq_eq' h6

theorem chain_pred {c : COp} : ∀ {l : List COp} {j : Nat}, chain l (some j) = true → c ∈ l → c.bef.testBit j = true ∨ ∃ c1 ∈ l, c.bef.testBit c1.i = true
  | [], _, _, h => by cases h
  | x :: l, j, hc, hm => by
    simp only [chain, Bool.and_eq_true] at hc
    obtain ⟨h1, h2⟩ := hc
    cases hm with
    | head => exact .inl h1
    | tail _ hm =>
      cases he : isEf x.k with
      | true =>
        rw [he] at h2
        rcases chain_pred h2 hm with h | ⟨c1, h, h'⟩
        · exact .inr ⟨x, by simp, h⟩
        · exact .inr ⟨c1, by simp [h], h'⟩
      | false =>
        rw [he] at h2
        rcases chain_pred h2 hm with h | ⟨c1, h, h'⟩
        · exact .inl h
        · exact .inr ⟨c1, by simp [h], h'⟩
theorem chain_suffix {c0 : COp} {rest : List COp} (he : isEf c0.k = true) : ∀ {done : List COp} {last : Option Nat}, chain (done ++ c0 :: rest) last = true → chain rest (some c0.i) = true
  | [], last, h => by
    simp only [List.nil_append, chain, Bool.and_eq_true, he] at h
    exact h.2
  | x :: done, last, h => by
    simp only [List.cons_append, chain, Bool.and_eq_true] at h
    exact chain_suffix he h.2

theorem count_set {listed : Array Bool} {i m : Nat} (hu : un listed i) (hc : listed.toList.count false = m + 1) : (listed.setIfInBounds i true).toList.count false = m := by
  have hlt := un_lt hu
  rw [Array.toList_setIfInBounds, List.count_set (by simpa using hlt)]
  have : listed.toList[i]'(by simpa using hlt) = false := by
    unfold un at hu
    simp [hlt] at hu
    simpa using hu
  rw [this, hc]
  simp

theorem ready_exists (Dr : DR G.C n ops L) {listed : Array Bool} (hs : listed.size = ops.size) {i : Nat} (hu : un listed i) : ∃ j, j ∈ Region.ready .any ops listed := by
  induction i using Nat.strongRecOn with
  | ind i ih =>
    have hlt := un_lt hu
    obtain ⟨o, ho⟩ : ∃ o, ops[i]? = some o := ⟨ops[i]'(by omega), Array.getElem?_eq_getElem (by omega)⟩
    by_cases hall : ∀ e ∈ o.after, Region.binds .any e = true → listed.getD e.on false = true
    · exact ⟨i, mem_ready.2 ⟨hu, o, ho, hall⟩⟩
    · simp only [Classical.not_forall] at hall
      obtain ⟨e, he, hb, hn⟩ := hall
      have hlt' := Dr.back i o ho e he hb
      refine ih e.on hlt' ?_
      unfold un
      have : e.on < listed.size := by omega
      simp [this] at hn ⊢
      exact hn

theorem draw_rel {ex : Exec} (hC : CtxOk G.C) (hex : ExOk G ex) (Dr : DR G.C n ops L) (hrd : Rd b ds) : ∀ (fuel τ : Nat) (listed : Array Bool) (done rest : List COp) (t : Tr V) (h : H) (lg : List Lg) (nb : Nat → Pos) (a : Go.Act) (μ : Inj) (w : World),
    listed.toList.count false = fuel → Inv G n ops L nx0 done rest lg t ds h listed nb a μ w →
    (runDraw ex rest lg t ds h).any (Lands G nx0 μ n (lone (b.atR a (.inRegion ops (Region.linearise.go .any ops fuel τ listed []) :: k)) cs w) b k cs) := by
  intro fuel
  induction fuel with
  | zero =>
    intro τ listed done rest t h lg nb a μ w hcount I
    have hnone : ∀ i, ¬ un listed i := by
      intro i hu
      have hlt := un_lt hu
      rw [List.count_eq_zero] at hcount
      apply hcount
      unfold un at hu
      simp [hlt] at hu
      rw [List.mem_iff_getElem]
      exact ⟨i, by simpa using hlt, by simpa using hu⟩
    cases rest with
    | cons c rest => exact (hnone _ (I.sub c (by simp))).elim
    | nil =>
      rw [runDraw_nil]
      exact ⟨μ, a, w, Inj.ext.refl _ _, I.nx, I.sim, ⟨I.asz, fun d => I.tmp d fun c hc hu => (hnone _ hu).elim⟩, I.ds, hrd, .one (by simp only [Region.linearise.go, List.reverse_nil]; exact stepR_region_end)⟩
  | succ fuel ih =>
    intro τ listed done rest t h lg nb a μ w hcount I
    refine settle ex Dr rest done lg t h nb I ?_
    intro done rest lg t h nb I hset
    have hex1 : ∃ i, un listed i := by
      have : false ∈ listed.toList := by
        rw [← List.count_pos_iff, hcount]; omega
      obtain ⟨i, hi, he⟩ := List.mem_iff_getElem.1 this
      refine ⟨i, ?_⟩
      unfold un
      have hi' : i < listed.size := by simpa using hi
      simp [hi']
      simpa using he
    obtain ⟨i0, hi0⟩ := hex1
    obtain ⟨j0, hj0⟩ := ready_exists (G := G) Dr I.lsz hi0
    have hgo : ∃ i ∈ Region.ready .any ops listed, ∃ τ', Region.linearise.go .any ops (fuel + 1) τ listed [] = i :: Region.linearise.go .any ops fuel τ' (listed.setIfInBounds i true) [] := by
      simp only [Region.linearise.go]
      change ∃ i ∈ Region.ready .any ops listed, ∃ τ', (match (Region.ready .any ops listed)[τ % (Region.ready .any ops listed).length]? with
        | some i => Region.linearise.go .any ops fuel (τ / (Region.ready .any ops listed).length) (listed.setIfInBounds i true) [i]
        | none => [].reverse) = _
      have hpos : 0 < (Region.ready .any ops listed).length := List.length_pos_of_mem hj0
      have hlt : τ % (Region.ready .any ops listed).length < (Region.ready .any ops listed).length := Nat.mod_lt _ hpos
      refine ⟨(Region.ready .any ops listed)[τ % (Region.ready .any ops listed).length], List.getElem_mem _, τ / (Region.ready .any ops listed).length, ?_⟩
      rw [List.getElem?_eq_getElem hlt]
      simp only []
      rw [linearise_go_acc]
      rfl
    obtain ⟨i, hi, τ', hgo⟩ := hgo
    rw [hgo]
    obtain ⟨hun, o, ho, hall⟩ := mem_ready.1 hi
    have hun : un listed i := hun
    obtain ⟨c, hc, hci⟩ := Dr.all i (Array.getElem?_eq_some_iff.1 ho).1
    have notun : ∀ j, listed.getD j false = true → ¬ un listed j := by
      intro j hj hu
      have hlt := un_lt hu
      unfold un at hu
      simp [hlt] at hj hu
      rw [hj] at hu; cases hu
    have hready : ∀ j, c.bef.testBit j = true → ¬ un listed j := by
      intro j hj
      obtain ⟨e, he, hb, h1⟩ := Dr.closed c hc o (by rw [hci]; exact ho) j hj
      have hl := notun _ (hall e he hb)
      rcases h1 with rfl | ⟨c2, hc2, he2, hj2⟩
      · exact hl
      · exact I.cl c2 hc2 (by rw [he2]; exact hl) j hj2
    rw [I.split, List.mem_append] at hc
    subst hci
    rcases hc with hc | hc
    · obtain ⟨a', μ', w', hst, hext, I'⟩ := machine_quiet (b := b) (k := k) (cs := cs) Dr I hc hun hready (Region.linearise.go .any ops fuel τ' (listed.setIfInBounds c.i true) [])
      have := ih τ' _ done rest t h lg nb a' μ' w' (count_set hun hcount) I'
      exact E.any_mono (fun e t' ds' h' g => g.from hext (Nat.le_refl _) hst) _ this
    · cases rest with
      | nil => cases hc
      | cons c0 rest =>
        have hef := hset c0 rest rfl
        have hc0 : c = c0 := by
          cases hc with
          | head => rfl
          | tail _ hc =>
            exfalso
            have hch := Dr.chn
            rw [I.split] at hch
            have := chain_suffix hef hch
            rcases chain_pred this hc with h1 | ⟨c1, hc1, h1⟩
            · exact hready _ h1 (I.sub c0 (by simp))
            · exact hready _ h1 (I.sub c1 (by simp [hc1]))
        subst hc0
        refine machine_effect (b := b) (k := k) (cs := cs) hC hex Dr I hef hready (Region.linearise.go .any ops fuel τ' (listed.setIfInBounds c.i true) []) ?_
        intro t' h' a' μ' w' hst hext I'
        have := ih τ' _ (done ++ [c]) rest t' h' lg nb a' μ' w' (count_set hun hcount) I'
        exact E.any_mono (fun e t' ds' h' g => g.from hext (Nat.le_refl _) hst) _ this
end
end Go.AE
