/-
  A part of the abstract evaluator's soundness: its operations agree with the model's. No conditions beyond the theorems' own.
-/
import Derived.Test.YtkmpjokcpboloaaGreatDoorAfA
set_option linter.unusedSimpArgs false
set_option linter.unusedVariables false
namespace Go.AE

section
variable {G : Gp} {μ : Inj} {h : H} {w : World} {t : Tr V} {ρ : Operand → Value} {fr : Frame} {cs : List Frame}

/-! one round of a loop over a function -/
theorem TRel.set {n : Nat} {tmps : Array Value} (ht : TRel μ n t tmps) {d : Nat} {v : V} {c : Value} (hd : d < n) (hv : VRel μ v c) : TRel μ n (t.set undef (nm d) v) (tmps.setIfInBounds d c) := by
  refine ⟨by rw [Array.size_setIfInBounds]; exact ht.1, fun i => ?_⟩
  rw [getT_set]
  have hs := ht.1
  by_cases e : i = d
  · subst e
    rw [if_pos rfl]
    have : (tmps.setIfInBounds i c).getD i Go.undef = c := by
      rw [Array.getD_eq_getD_getElem?, Array.getElem?_setIfInBounds_self_of_lt (by omega)]; rfl
    rw [this]; exact hv
  · rw [if_neg e]
    have : (tmps.setIfInBounds d c).getD i Go.undef = tmps.getD i Go.undef := by
      rw [Array.getD_eq_getD_getElem?, Array.getD_eq_getD_getElem?, Array.getElem?_setIfInBounds_ne (Ne.symm e)]
    rw [this]; exact ht.2 i

theorem setParams_rel {n : Nat} : ∀ (ps : List Tmp) (vs : List V) (xs : List Value) (t t' : Tr V) (tmps : Array Value), TRel μ n t tmps → VRels μ vs xs → setParams n ps vs t = some t' →
    xs.length = ps.length ∧ TRel μ n t' ((ps.zip xs).foldl (fun tmps (x : Tmp × Value) => tmps.setIfInBounds x.1 x.2) tmps)
  | [], [], xs, t, t', tmps, ht, hv, hs => by
    cases hv; simp only [setParams, Option.some.injEq] at hs; subst hs; exact ⟨rfl, ht⟩
  | p :: ps, v :: vs, xs, t, t', tmps, ht, hv, hs => by
    obtain ⟨c, xs', rfl, hc, hcs⟩ := hv
    simp only [setParams] at hs
    split at hs
    · rename_i hlt
      rw [bltN, decide_eq_true_eq] at hlt
      obtain ⟨h1, h2⟩ := setParams_rel ps vs xs' _ t' _ (ht.set hlt hc) hcs hs
      exact ⟨by simp [h1], h2⟩
    · cases hs
  | [], _ :: _, _, _, _, _, _, _, hs => by simp [setParams] at hs
  | _ :: _, [], _, _, _, _, _, _, hs => by simp [setParams] at hs

theorem obj_loop (s : Sim G μ h w) {b : Pos} {l : Loc} (hb : μ b = some l) {r : Lp} (hg : h.get b = .loop r) :
    ∃ f tmps ld, w.heap[l.blk]? = some (.loop { state := r.st, pending := r.pending, fn := f, tmps, params := ⟨r.params⟩, assign := r.assign, body := r.body, defers := ld.blk }) ∧
      μ r.defers = some ld ∧ TRel μ r.nt r.tmps tmps := by
  have := s.obj b l hb
  rw [hg] at this
  exact this

theorem Sim.setLoop (s : Sim G μ h w) {b : Pos} {l : Loc} (hb : μ b = some l) {r : Lp} (hg : h.get b = .loop r) (st : LoopState) (p : Option Code) {f : FuncId} {tmps : Array Value} {ld : Loc}
    (hd : μ r.defers = some ld) (ht : TRel μ r.nt r.tmps tmps) :
    Sim G μ (h.put b (.loop { r with st, pending := p })) { w with heap := w.heap.setIfInBounds l.blk (.loop { state := st, pending := p, fn := f, tmps, params := ⟨r.params⟩, assign := r.assign, body := r.body, defers := ld.blk }) } := by
  have hlive : (h.get b).live = true := by rw [hg]; rfl
  have hlt := (s.obj b l hb).lt hlive
  refine s.upd hb hlive (by rw [hg]; exact id) _ _ ?_ (by simp) ⟨rfl, rfl, rfl⟩ ?_
  · intro B hB; simp [Array.getElem?_setIfInBounds_ne (Ne.symm hB)]
  · exact ⟨f, tmps, ld, by simp [hlt], hd, ht⟩

theorem roundEnd_rel {l : Pos} {L : Loc} {b c : Frame} {m : Machine} {nx : Pos} {μ0 : Inj} (hb : b.roundOf = some L.blk) (hk : b.kind = .normal) {nt : Nat} {e : Ex} {t' : Tr V} {ds' : List D} {h' : H}
    (hl : ∀ ν : Inj, μ0.le ν → ν l = some L) (g : Lands G nx μ0 nt m b [] (c :: cs) e t' ds' h') :
    (roundEnd l e t' ds' h').any (fun v h'' => ∃ μ' w' x, μ0.ext nx μ' ∧ nx.toNat ≤ h''.nx.toNat ∧ Sim G μ' h'' w' ∧ VRel μ' v x ∧ Steps G.C.P m (lone (c.finish x) cs w')) := by
  obtain ⟨μ', a', w', h1, h2, h3, h4, h5, h6, h7⟩ := g
  have hL := hl μ' h1.1
  unfold roundEnd
  split
  · split
    · rename_i r hg
      obtain ⟨f, tmps, ld, hobj, hd, ht⟩ := obj_loop h3 hL hg
      have hrun : ∀ j : Option Code, (Instr.endRound L.blk j).run G.C.P w' = .ok (.bool j.isNone) { w' with heap := w'.heap.setIfInBounds L.blk (.loop { state := if j.isNone then .ready else .done, pending := j, fn := f, tmps, params := ⟨r.params⟩, assign := r.assign, body := r.body, defers := ld.blk }) } := by
        intro j
        simp only [Instr.endRound, Instr.getLoop, Sem.run_bind, run_getObj hobj (by simp), Result.andThen_ok, pure_bind, Sem.run_pure, run_setObj hobj (by simp)]
      have s' := fun st p => h3.setLoop hL hg st p (f := f) hd ht
      split
      · rename_i hj
        cases e <;> simp only [jumpOf] at hj <;> (try cases hj)
        exact ⟨μ', _, .bool true, h1, by rw [H.nx_put]; exact h2, s' _ _, rfl, h7.trans (.one (stepR_round_end hb hk (hrun none)))⟩
      · rename_i j hj
        cases e with
        | normal => simp [jumpOf] at hj
        | ret =>
          simp only [jumpOf, Option.some.injEq] at hj; subst hj
          obtain ⟨kk, h7⟩ := h7
          exact ⟨μ', _, .bool false, h1, by rw [H.nx_put]; exact h2, s' _ _, rfl, h7.trans (.one (stepR_round_ret hb hk (hrun _)))⟩
        | exit id =>
          simp only [jumpOf, Option.some.injEq] at hj; subst hj
          obtain ⟨kk, hx, h7⟩ := h7
          exact ⟨μ', _, .bool false, h1, by rw [H.nx_put]; exact h2, s' _ _, rfl, h7.trans (.one (stepR_round_exit hb hk hx (hrun _)))⟩
        | goto lb =>
          simp only [jumpOf, Option.some.injEq] at hj; subst hj
          obtain ⟨kk, hx, h7⟩ := h7
          exact ⟨μ', _, .bool false, h1, by rw [H.nx_put]; exact h2, s' _ _, rfl, h7.trans (.one (stepR_round_goto hb hk hx (hrun _)))⟩
    · trivial
  · trivial

theorem roundF_rel (hok : FrOk fr) {ex : Exec} (hex : ExOk G ex) (s : Sim G μ h w) {l : Pos} {L : Loc} (hl : μ l = some L) {vs : List V} {args : List Value} (hv : VRels μ vs args) :
    (roundF ex l vs h).any (Acts G fr cs h.nx μ w (Instr.yield L.blk ⟨args⟩)) := by
  unfold roundF
  split
  · rename_i r hg
    obtain ⟨f, tmps, ld, hobj, hd, ht⟩ := obj_loop s hl hg
    split
    · rename_i t' hsp
      obtain ⟨hlen, ht'⟩ := setParams_rel _ _ _ _ _ _ ht hv hsp
      have hrun : (Instr.yield L.blk ⟨args⟩).run G.C.P w = .ok (.round L.blk f ((r.params.zip args).foldl (fun tmps (x : Tmp × Value) => tmps.setIfInBounds x.1 x.2) tmps) r.assign r.body) w := by
        simp only [Instr.yield, Instr.getLoop, Sem.run_bind, run_getObj hobj (by simp), Result.andThen_ok, pure_bind, Sem.run_pure]
        simp [hlen]
      generalize hT : (r.params.zip args).foldl (fun tmps (x : Tmp × Value) => tmps.setIfInBounds x.1 x.2) tmps = T at hrun ht'
      let b : Frame := { (default : Frame) with fn := f, kind := .normal, roundOf := some L.blk }
      have henter : Frame.round L.blk f T r.assign r.body .normal = b.atR ⟨T, []⟩ [.code r.assign, .beginRound, .code r.body] := rfl
      refine E.any_bindR _ ?_
      have h0 := hex r.nt r.assign t' [.round] h b ⟨T, []⟩ [.beginRound, .code r.body] (fr :: cs) μ w s ht' rfl (fun _ => rfl)
      refine E.any_mono ?_ _ h0
      intro e t1 ds1 h1 g
      obtain ⟨μ1, a1, w1, g1, g2, g3, g4, g5, g6, g7⟩ := g
      have hL1 := g1.1 _ _ hl
      unfold roundBody
      split
      · split
        · rename_i r1 hg1
          split
          · rename_i hst
            obtain ⟨f1, tmps1, ld1, hobj1, hd1, ht1⟩ := obj_loop g3 hL1 hg1
            have hbegin : (Instr.beginRound L.blk).run G.C.P w1 = .ok () { w1 with heap := w1.heap.setIfInBounds L.blk (.loop { state := .busy, pending := r1.pending, fn := f1, tmps := tmps1, params := ⟨r1.params⟩, assign := r1.assign, body := r1.body, defers := ld1.blk }) } := by
              simp only [Instr.beginRound, Instr.getLoop, Sem.run_bind, run_getObj hobj1 (by simp), Result.andThen_ok, pure_bind, Sem.run_pure, run_setObj hobj1 (by simp), hst]
            have s2 := g3.setLoop hL1 hg1 .busy r1.pending (f := f1) hd1 ht1
            refine E.any_bindR _ ?_
            have h2 := hex r.nt r.body t1 [.round] _ b a1 [] (fr :: cs) μ1 _ s2 g4 g5 (fun _ => rfl)
            refine E.any_mono ?_ _ h2
            intro e2 t2 ds2 h2' gg
            refine R.any_mono ?_ _ (roundEnd_rel (c := fr) (cs := cs) (b := b) (l := l) (L := L) rfl rfl (fun ν hν => hν _ _ hL1) gg)
            rintro v h3 ⟨μ3, w3, x, k1, k2, k3, k4, k5⟩
            rw [H.nx_put] at k1 k2
            refine ⟨μ3, w3, x, g1.trans k1 g2, Nat.le_trans g2 k2, k3, k4, Goes.round hok hrun ?_⟩
            rw [henter]
            have g7' : Steps G.C.P (lone (b.atR ⟨T, []⟩ (entry r.assign [.beginRound, .code r.body])) (fr :: cs) w) (lone (b.atR a1 [.beginRound, .code r.body]) (fr :: cs) w1) := g7
            exact (steps_entry _ _).trans (g7'.trans (.head (stepR_beginRound (b := b) rfl hbegin) ((steps_entry _ _).trans k5)))
          · trivial
        · trivial
      · trivial
    · trivial
  · trivial
end
end Go.AE
