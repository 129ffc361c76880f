/-
  The abstract evaluator is sound: what it computes of a piece of code is what the machine does. No conditions beyond the theorems' own.
-/
import Derived.Test.YtkmpjokcpboloaaGreatDoorAfJ
set_option linter.unusedSimpArgs false
set_option linter.unusedVariables false
namespace Go.AE

section
variable {G : Gp} {n : Nat} {t : Tr V} {ds : List D} {h : H} {a : Go.Act} {μ : Inj} {w : World} {b : Frame} {k : List Item} {cs : List Frame}

/-! regions -/
theorem region_rel {ex : Exec} (hC : CtxOk G.C) (hex : ExOk G ex) (s : Sim G μ h w) (ht : TRel μ n t a.tmps) (hd : DRels μ ds a.defers) (hrd : Rd b ds) {id : Nat} {ops : Array Oper} {draw : Bool} {f} (hf : compReg G.C n ops draw = .mk f) :
    (f ex t ds h).any (Lands G h.nx μ n (lone (b.atR a (.code (.region id ops draw) :: k)) cs w) b k cs) := by
  unfold compReg at hf
  split at hf
  · cases hf; trivial
  · rename_i l hl
    cases draw with
    | false =>
      simp only at hf
      cases hf
      have := runOps_rel (b := b) (k := k) (cs := cs) hC hex (ops := ops) (n := n) (idxd ops) l (fun x hx => (idxd_mem (o := x.1) (i := x.2.1) (b := x.2.2) hx).1) hl t ds h a μ w s ht hd hrd
      rw [idxd_all] at this
      exact E.any_mono (fun e t' ds' h' g => g.from (Inj.ext.refl _ _) (Nat.le_refl _) (.one stepR_region)) _ this
    | true =>
      simp only at hf
      split at hf
      · rename_i hok
        cases hf
        have Dr := DR.of hl hok
        have hun : ∀ i, i < ops.size → un (Array.replicate ops.size false) i := by
          intro i hi; unfold un; simp [hi]
        have hlt : ∀ c ∈ asap l, c.i < ops.size := by
          intro c hc
          obtain ⟨o, ho, _⟩ := Dr.cop c hc
          exact (Array.getElem?_eq_some_iff.1 ho).1
        have I : Inv G n ops (asap l) h.nx [] (asap l) [] t ds h (Array.replicate ops.size false) (fun _ => .h) a μ { w with drawn := w.drawn + 1 } :=
          { split := rfl, lsz := by simp
            sub := fun c hc => hun _ (hlt c hc)
            eff := fun c hc => nomatch hc
            cl := fun c hc hu => (hu (hun _ (hlt c hc))).elim
            asz := ht.1
            tmp := fun d _ => ht.2 d
            note := fun c hc => nomatch hc
            inj := fun c hc => nomatch hc
            sim := s.drawn _
            nx := Nat.le_refl _
            ds := hd }
        have := draw_rel (b := b) (k := k) (cs := cs) hC hex Dr hrd ops.size (w.tape w.drawn (.order b.fn id)) (Array.replicate ops.size false) [] (asap l) t h [] (fun _ => .h) a μ _ (by simp) I
        refine E.any_mono (fun e t' ds' h' g => g.from (Inj.ext.refl _ _) (Nat.le_refl _) (.one ?_)) _ this
        have hs := stepR_region_draw (P := G.C.P) (b := b) (a := a) (k := k) (cs := cs) (w := w) (ops := ops) (id := id)
        rw [hC.mixed] at hs
        exact hs
      · cases hf; trivial

/-! one piece of code behind another -/
theorem Lands.pass {nx : Pos} {m : Machine} {x : Item} {e : Ex} {t' : Tr V} {ds' : List D} {h' : H} (hx : x.plain = true) (he : e ≠ .normal) (g : Lands G nx μ n m b (x :: k) cs e t' ds' h') : Lands G nx μ n m b k cs e t' ds' h' := by
  obtain ⟨μ', a', w', h1, h2, h3, h4, h5, h6, h7⟩ := g
  exact ⟨μ', a', w', h1, h2, h3, h4, h5, h6, h7.pass hx he⟩

theorem seq_rel {ex : Exec} (hex : ExOk G ex) {c2 : Code} {x : Item} (hx : x.plain = true) (hstep : ∀ (a : Go.Act) (w : World), Steps G.C.P (lone (b.atR a (x :: k)) cs w) (lone (b.atR a (entry c2 k)) cs w)) {m : Machine} {nx : Pos} {e : E}
    (g : e.any (Lands G nx μ n m b (x :: k) cs)) : (seqE ex n c2 e).any (Lands G nx μ n m b k cs) := by
  unfold seqE
  refine E.any_bind _ (E.any_mono ?_ _ g)
  intro e t' ds' h' g
  cases e with
  | normal =>
    obtain ⟨μ', a', w', h1, h2, h3, h4, h5, h6, h7⟩ := g
    have := hex n c2 t' ds' h' b a' k cs μ' w' h3 h4 h5 h6
    exact E.any_mono (fun e t' ds' h' g => g.from h1 h2 (Steps.trans h7 (hstep a' w'))) _ this
  | exit id => exact g.pass hx (by simp)
  | goto l => exact g.pass hx (by simp)
  | ret => exact g.pass hx (by simp)

/-! loops over functions -/
theorem enter_run {P : Program} {fn : FuncId} {tmps : Array Value} {params : Array Tmp} {as bd : Code} (w : World) :
    (Instr.enterLoop fn tmps params as bd none).run P w = .ok (w.heap.size + 1, [{ target := .collected w.heap.size, args := #[] }])
      { w with heap := (w.heap.push (.deferred (some []))).push (.loop { state := .ready, pending := none, fn, tmps, params, assign := as, body := bd, defers := w.heap.size }) } := by
  simp [Instr.enterLoop, newObj, Sem.run]
  rfl

theorem rf_rel {ex : Exec} (hC : CtxOk G.C) (hex : ExOk G ex) (s : Sim G μ h w) (ht : TRel μ n t a.tmps) (hd : DRels μ ds a.defers) (hrd : Rd b ds) {f : Operand} {params : Array Tmp} {as bd : Code} :
    (rfCall G.C ex n params.toList as bd t ds h (opd G.C t f)).any (Lands G h.nx μ n (lone (b.atR a (.code (.rangeFunc f params as bd) :: k)) cs w) b k cs) := by
  cases hf : opd G.C t f with
  | none => trivial
  | some fv =>
    unfold rfCall
    simp only
    cases hr : isRound ds with
    | true => trivial
    | false =>
      have hro : b.roundOf = none := by
        cases hb : b.roundOf with
        | none => rfl
        | some l =>
          have := hrd (by rw [hb]; simp)
          rw [this] at hr; cases hr
      simp only
      -- the two blocks
      let w1 : World := { w with heap := w.heap.push (.deferred (some [])) }
      let l1 : Loc := ⟨w.heap.size, 0, 0, 0⟩
      obtain ⟨hle1, s1⟩ := s.new (.defd true) (.deferred (some [])) l1 rfl (show _ = _ by simp [l1])
      let μ1 := μ.set h.nx l1
      let lp : Lp := { st := .ready, pending := none, nt := n, tmps := t, params := params.toList, assign := as, body := bd, defers := h.nx }
      let w2 : World := { w1 with heap := w1.heap.push (.loop { state := .ready, pending := none, fn := b.fn, tmps := a.tmps, params := params, assign := as, body := bd, defers := w.heap.size }) }
      let l2 : Loc := ⟨w1.heap.size, 0, 0, 0⟩
      have hself : μ1 h.nx = some l1 := Inj.set_self _ _ _
      obtain ⟨hle2, s2⟩ := s1.new (.loop lp) (.loop { state := .ready, pending := none, fn := b.fn, tmps := a.tmps, params := params, assign := as, body := bd, defers := w.heap.size }) l2 rfl (by
        refine ⟨b.fn, a.tmps, l1, push_get _ _, ?_, ?_⟩
        · rw [Inj.set_other]
          · exact hself
          · intro e
            have h1 : h.nx.toNat = (h.add (.defd true)).nx.toNat := by rw [← e]
            rw [H.nx_add, Pos.toNat_succ] at h1; omega
        · exact (ht.mono hle1).mono (Inj.le_set _ s1.fresh))
      let μ2 := μ1.set (h.add (.defd true)).nx l2
      have hnx2 : ((h.add (.defd true)).add (.loop lp)).nx.toNat = h.nx.toNat + 2 := by rw [H.nx_add, Pos.toNat_succ, H.nx_add, Pos.toNat_succ]
      show (R.bindE (rfEnd (h.add (.defd true)).nx h.nx t ds) (callV G.C ex fv [.yield (h.add (.defd true)).nx] ((h.add (.defd true)).add (.loop lp)))).any _
      refine R.any_bindE _ ?_
      let fr' : Frame := b.atR ⟨a.tmps, { target := .collected w.heap.size, args := #[] } :: a.defers⟩ (.inRangeFunc (w.heap.size + 1) :: k)
      have hok : FrOk fr' := trivial
      have hfv := opd_rel ht s.gl f fv hf
      have hl2 : l2.blk = w.heap.size + 1 := by simp [l2, w1]
      have hy : VRels μ2 [.yield (h.add (.defd true)).nx] [.func (.yield (w.heap.size + 1)) ⟨[]⟩ ⟨[]⟩] :=
        VRels.cons ⟨l2, Inj.set_self _ _ _, by rw [hl2]⟩ VRels.nil
      have hcall := callV_rel (cs := cs) hok hC hex s2 (VRel.mono (hle1.trans hle2) _ _ hfv) hy
      refine R.any_mono ?_ _ hcall
      rintro v h3 ⟨μ3, w3, c, g1, g2, g3, g4, g5⟩
      have hst : Steps G.C.P (lone (b.atR a (.code (.rangeFunc f params as bd) :: k)) cs w) (lone (fr'.finish c) cs w3) := by
        refine g5 _ w ?_
        have he : a.eval f = (Frame.eval fr') f := by rw [Frame.eval_atR]; cases f <;> rfl
        simp only [stepG, stepG.exec, Frame.atR, hro, Sem.runT_eq, enter_run, GStep.bare_after]
        have hfr : fr' = { fn := b.fn, tmps := a.tmps, todo := .inRangeFunc (w.heap.size + 1) :: k, defers := [{ target := .collected w.heap.size, args := #[] }] ++ a.defers, mode := .run, kind := b.kind } := by
          simp only [fr', Frame.atR, hro]; rfl
        rw [hfr]
        refine apply_congr ?_
        rw [hfr] at he
        simp only [resolve, he, List.map_toArray, List.map_cons, List.map_nil]
        rfl
      have hfin : fr'.finish c = b.atR ⟨a.tmps, { target := .collected w.heap.size, args := #[] } :: a.defers⟩ (.endRangeFunc (w.heap.size + 1) :: k) := rfl
      rw [hfin] at hst
      have hμ3l : μ3 (h.add (.defd true)).nx = some l2 := g1.1 _ _ (Inj.set_self _ _ _)
      have hμ3d : μ3 h.nx = some l1 := g1.1 _ _ (hle2 _ _ hself)
      have hext : μ.ext h.nx μ3 := by
        refine (Inj.ext.set l1 s.fresh (Nat.le_refl _)).trans ((Inj.ext.set l2 s1.fresh (Nat.le_refl _)).trans g1 ?_) ?_
        · rw [hnx2, H.nx_add, Pos.toNat_succ]; omega
        · rw [H.nx_add, Pos.toNat_succ]; omega
      have hn3 : h.nx.toNat ≤ h3.nx.toNat := by have := g2; omega
      unfold rfEnd
      split
      · rename_i r' hg
        obtain ⟨f', tmps', ld, hobj, hdd, htt⟩ := obj_loop g3 hμ3l hg
        rw [hl2] at hobj
        have fin : ∀ (hb : r'.st ≠ .busy), (Instr.endLoop (w.heap.size + 1)).run G.C.P w3 = .ok r'.pending { w3 with heap := w3.heap.setIfInBounds (w.heap.size + 1) (.loop { state := .exhausted, pending := r'.pending, fn := f', tmps := tmps', params := ⟨r'.params⟩, assign := r'.assign, body := r'.body, defers := ld.blk }) } := by
          intro hb
          have hb' : (r'.st == LoopState.busy) = false := by simpa using hb
          simp only [Instr.endLoop, Instr.getLoop, Sem.run_bind, run_getObj hobj (by simp), Result.andThen_ok, pure_bind, Sem.run_pure, hb', Bool.false_eq_true, if_false, run_setObj hobj (by simp)]
        have s4 := g3.setLoop hμ3l hg .exhausted r'.pending (f := f') hdd htt
        rw [hl2] at s4
        have step : ∀ (hb : r'.st ≠ .busy), Steps G.C.P (lone (b.atR a (.code (.rangeFunc f params as bd) :: k)) cs w) (lone (b.atR ⟨a.tmps, { target := .collected w.heap.size, args := #[] } :: a.defers⟩ ((r'.pending.map Item.code).toList ++ k)) cs { w3 with heap := w3.heap.setIfInBounds (w.heap.size + 1) (.loop { state := .exhausted, pending := r'.pending, fn := f', tmps := tmps', params := ⟨r'.params⟩, assign := r'.assign, body := r'.body, defers := ld.blk }) }) := by
          intro hb
          refine hst.trans (.one (step_lone_go ?_))
          simp only [stepG, stepG.exec, Frame.atR, Sem.runT_eq, fin hb, GStep.bare_after]
          rfl
        have land : ∀ (e : Ex) (hb : r'.st ≠ .busy), Arr G.C.P (lone (b.atR a (.code (.rangeFunc f params as bd) :: k)) cs w) b k cs e ⟨a.tmps, { target := .collected w.heap.size, args := #[] } :: a.defers⟩ { w3 with heap := w3.heap.setIfInBounds (w.heap.size + 1) (.loop { state := .exhausted, pending := r'.pending, fn := f', tmps := tmps', params := ⟨r'.params⟩, assign := r'.assign, body := r'.body, defers := ld.blk }) } →
            Lands G h.nx μ n (lone (b.atR a (.code (.rangeFunc f params as bd) :: k)) cs w) b k cs e t (.collected h.nx :: ds) (h3.put (h.add (.defd true)).nx (.loop { r' with st := .exhausted })) := by
          intro e hb harr
          refine ⟨μ3, ⟨a.tmps, { target := .collected w.heap.size, args := #[] } :: a.defers⟩, _, hext, by rw [H.nx_put]; exact hn3, ?_, ht.mono hext.1, ⟨l1, _, rfl, hμ3d, hd.mono hext.1⟩, fun e => (e hro).elim, harr⟩
          exact s4
        split
        · trivial
        · rename_i hb
          have hb : r'.st ≠ .busy := fun e => hb e
          split
          · rename_i hp
            refine land .normal hb ?_
            have := step hb
            rw [hp] at this ⊢
            exact this
          · rename_i hp
            refine land .ret hb ?_
            have := step hb
            rw [hp] at this ⊢
            exact ⟨k, this⟩
          · rename_i id hp
            refine land (.exit id) hb ?_
            have := step hb
            rw [hp] at this ⊢
            exact ⟨k, rfl, this⟩
          · rename_i id hp
            refine land (.goto id) hb ?_
            have := step hb
            rw [hp] at this ⊢
            exact ⟨k, rfl, this⟩
          · trivial
      · trivial

/-! the evaluator is right -/
theorem compC_exit (C : Ctx) (k id : Nat) : compC C k (.exit id) = .mk fun _ t ds h => .ok (.exit id) t ds h := rfl

theorem exec_zero (C : Ctx) : exec C 0 = fun _ _ _ _ _ => .fail := rfl
theorem exec_succ (C : Ctx) (m : Nat) (k : Nat) (c : Code) (t : Tr V) (ds : List D) (h : H) {f} (hf : compC C k c = .mk f) : exec C (m + 1) k c t ds h = f (exec C m) t ds h := by
  show CC.rec (motive := fun _ => E) (fun f => f (exec C m) t ds h) (compC C k c) = _
  rw [hf]

theorem exec_ok (hC : CtxOk G.C) : ∀ fuel, ExOk G (exec G.C fuel)
  | 0 => fun _ _ _ _ _ _ _ _ _ _ _ _ _ _ _ => trivial
  | m + 1 => by
    have ih := exec_ok hC m
    intro nt c t ds h b a k cs μ w s ht hd hrd
    have done : ∀ {e : Ex}, Arr G.C.P (lone (b.atR a (entry c k)) cs w) b k cs e a w → Lands G h.nx μ nt (lone (b.atR a (entry c k)) cs w) b k cs e t ds h :=
      fun harr => ⟨μ, a, w, Inj.ext.refl _ _, Nat.le_refl _, s, ht, hd, hrd, harr⟩
    cases c with
    | skip => rw [exec_succ G.C m nt .skip t ds h rfl]; exact done (e := .normal) (.one stepR_skip)
    | label l => rw [exec_succ G.C m nt (.label l) t ds h rfl]; exact done (e := .normal) (.one stepR_label)
    | exit id => rw [exec_succ G.C m nt (.exit id) t ds h rfl]; exact done (e := .exit id) ⟨k, rfl, .refl _ _⟩
    | goto l => rw [exec_succ G.C m nt (.goto l) t ds h rfl]; exact done (e := .goto l) ⟨k, rfl, .refl _ _⟩
    | ret => rw [exec_succ G.C m nt .ret t ds h rfl]; exact done (e := .ret) ⟨k, .refl _ _⟩
    | refuse why => rw [exec_succ G.C m nt (.refuse why) t ds h rfl]; trivial
    | region id ops draw =>
      cases hf : compReg G.C nt ops draw with
      | mk f =>
        rw [exec_succ G.C m nt (.region id ops draw) t ds h (f := f) hf]
        exact region_rel hC ih s ht hd hrd hf
    | rangeFunc f ps as bd =>
      rw [exec_succ G.C m nt (.rangeFunc f ps as bd) t ds h rfl]
      exact rf_rel hC ih s ht hd hrd
    | seq x y =>
      rw [exec_succ G.C m nt (.seq x y) t ds h rfl]
      refine seq_rel ih (x := .code y) rfl (fun a w => steps_entry y k) ?_
      have := ih nt x t ds h b a (.code y :: k) cs μ w s ht hd hrd
      exact E.any_mono (fun e t' ds' h' g => g.from (Inj.ext.refl _ _) (Nat.le_refl _) (.head stepR_seq (steps_entry x _))) _ this
    | loop x =>
      rw [exec_succ G.C m nt (.loop x) t ds h rfl]
      refine seq_rel ih (c2 := .loop x) (x := .inLoop x) rfl (fun a w => .one stepR_inLoop) ?_
      have := ih nt x t ds h b a (.inLoop x :: k) cs μ w s ht hd hrd
      exact E.any_mono (fun e t' ds' h' g => g.from (Inj.ext.refl _ _) (Nat.le_refl _) (steps_entry x _)) _ this
    | cond x y z =>
      rw [exec_succ G.C m nt (.cond x y z) t ds h rfl]
      unfold condE
      have hor := opd_rel ht s.gl
      split
      · rename_i hx
        have hv : a.eval x = .bool true := hor _ _ hx
        have := ih nt y t ds h b a k cs μ w s ht hd hrd
        exact E.any_mono (fun e t' ds' h' g => g.from (Inj.ext.refl _ _) (Nat.le_refl _) (.head (stepR_cond hv) (steps_entry y _))) _ this
      · rename_i hx
        have hv : a.eval x = .bool false := hor _ _ hx
        have := ih nt z t ds h b a k cs μ w s ht hd hrd
        exact E.any_mono (fun e t' ds' h' g => g.from (Inj.ext.refl _ _) (Nat.le_refl _) (.head (stepR_cond hv) (steps_entry z _))) _ this
      · trivial
    | block id x =>
      rw [exec_succ G.C m nt (.block id x) t ds h rfl]
      refine E.any_bind _ ?_
      have := ih nt x t ds h b a (.inBlock id :: k) cs μ w s ht hd hrd
      refine E.any_mono ?_ _ this
      rintro e t' ds' h' ⟨μ', a', w', h1, h2, h3, h4, h5, h6, h7⟩
      have h7 := h7.of_steps (.head (stepR_block (P := G.C.P) (b := b) (a := a) (k := k) (cs := cs) (w := w) (id := id) (c := x)) (steps_entry x _))
      have land : ∀ {e : Ex}, Arr G.C.P (lone (b.atR a (.code (.block id x) :: k)) cs w) b k cs e a' w' → Lands G h.nx μ nt (lone (b.atR a (.code (.block id x) :: k)) cs w) b k cs e t' ds' h' :=
        fun harr => ⟨μ', a', w', h1, h2, h3, h4, h5, h6, harr⟩
      cases e with
      | normal => exact land (e := .normal) (Steps.trans h7 (.one stepR_inBlock))
      | goto l => obtain ⟨kk, g1, g2⟩ := h7; exact land (e := .goto l) ⟨kk, by rw [g1]; simp [gotoIn], g2⟩
      | ret => exact land (e := .ret) h7
      | exit id' =>
        obtain ⟨kk, g1, g2⟩ := h7
        simp only [blockE]
        split
        · rename_i he
          have he := Nat.eq_of_beq_eq_true he
          subst he
          exact land (e := .normal) (g2.trans (.one (stepR_exit (by rw [g1]; simp [exitTo]))))
        · rename_i he
          have he := Nat.ne_of_beq_eq_false he
          refine land (e := .exit id') ⟨kk, ?_, g2⟩
          rw [g1]
          have : (id == id') = false := by simpa using (Ne.symm he)
          simp [exitTo, this]
    | scope x =>
      rw [exec_succ G.C m nt (.scope x) t ds h rfl]
      refine E.any_bind _ ?_
      have := ih nt x t ds h b a (.inScope x :: k) cs μ w s ht hd hrd
      refine E.any_mono ?_ _ this
      rintro e t' ds' h' ⟨μ', a', w', h1, h2, h3, h4, h5, h6, h7⟩
      have hs1 : step G.C.P (lone (b.atR a (.code (.scope x) :: k)) cs w) = .next (lone (b.atR a (.code x :: .inScope x :: k)) cs w) := step_lone_go (by simp [stepG, stepG.exec, Frame.atR])
      have h7 := h7.of_steps (.head hs1 (steps_entry x _))
      have land : ∀ {e : Ex}, Arr G.C.P (lone (b.atR a (.code (.scope x) :: k)) cs w) b k cs e a' w' → Lands G h.nx μ nt (lone (b.atR a (.code (.scope x) :: k)) cs w) b k cs e t' ds' h' :=
        fun harr => ⟨μ', a', w', h1, h2, h3, h4, h5, h6, harr⟩
      cases e with
      | normal =>
        refine land (e := .normal) (Steps.trans h7 (.one (step_lone_go (by simp [stepG, stepG.exec, Frame.atR]))))
      | exit id => obtain ⟨kk, g1, g2⟩ := h7; exact land (e := .exit id) ⟨kk, by rw [g1]; simp [exitTo], g2⟩
      | goto l => trivial
      | ret => exact land (e := .ret) h7
end
end Go.AE
