/-
  A part of the abstract evaluator's soundness: its operations agree with the model's. No conditions beyond the theorems' own.
-/
import Derived.Test.YtkmpjokcpboloaaGreatDoorAfC
set_option linter.unusedSimpArgs false
set_option linter.unusedVariables false
namespace Go.AE

section
variable {G : Gp} {μ : Inj} {h : H} {w : World} {t : Tr V} {ρ : Operand → Value} {fr : Frame} {cs : List Frame}

/-! any operation -/
noncomputable def stepK (ex : Exec) : CK → Tr V → H → R
  | .no, _, _ => .fail
  | .pu f, t, h => R.ofV h (f t)
  | .rd f, t, h => R.ofV h (f t h)
  | .al f, t, h => newO h (f t)
  | .ef f, t, h => f t h
  | .call f, t, h => f ex t h

theorem exec_callV {o : Oper} {f : Operand} {args : Array Operand} {ats : Array TypeId} (ho : o.op = .call ⟨.value f, args, ats⟩) :
    execOp ρ o = (do let d ← Deferred.ofValue (ρ f) (args.map ρ); Go.invoke d.target d.args) := by
  simp only [execOp, ho, resolve]
theorem exec_callI {o : Oper} {r : Operand} {name : String} {args : Array Operand} {ats : Array TypeId} (ho : o.op = .call ⟨.invoke r name, args, ats⟩) :
    execOp ρ o = Go.invoke (.fn (.method name) #[]) (#[ρ r] ++ args.map ρ) := by
  simp only [execOp, ho, resolve, pure_bind]

theorem op_rel (hok : FrOk fr) {ex : Exec} (hC : CtxOk G.C) (hex : ExOk G ex) (s : Sim G μ h w) {o : Oper} (hr : OR G.C μ t ρ) :
    (stepK ex (compK G.C o.op) t h).any (Acts G fr cs h.nx μ w (execOp ρ o)) := by
  cases hk : compK G.C o.op with
  | no => trivial
  | pu f =>
    refine R.any_ofV fun v hv => ?_
    obtain ⟨c, hc, hp⟩ := pu_rel hk hr hv
    exact Gives.acts ⟨μ, w, c, _, Inj.ext.refl _ _, Nat.le_refl _, s, hc, hp w, .inl rfl⟩
  | rd f =>
    refine R.any_ofV fun v hv => ?_
    obtain ⟨c, hc, hp⟩ := rd_rel s hk hr hv
    exact Gives.acts ⟨μ, w, c, _, Inj.ext.refl _ _, Nat.le_refl _, s, hc, hp, .inl rfl⟩
  | al f =>
    simp only [stepK]
    cases ha : f t with
    | none => trivial
    | some a =>
      obtain ⟨sm, he, hm⟩ := al_rel (w := w) s.fresh hk hr ha
      exact R.any_mono (fun v h' g => g.acts) _ (Makes.any s he (a := some a) (fun x hx => by cases hx; exact hm))
  | ef f =>
    simp only [stepK]
    cases hc : isComm o.op with
    | false => exact R.any_mono (fun v h' g => g.acts) _ (ef_rel s hc hk hr)
    | true =>
      cases ho : o.op with
      | send ch x =>
        rw [ho] at hk; cases hk
        simp only
        cases h1 : opd G.C t ch with
        | none => trivial
        | some a =>
          cases h2 : opd G.C t x with
          | none => unfold opSend; split <;> first | trivial | (rename_i e; cases e)
          | some b =>
            have he : execOp ρ o = pure (.comm #[{ chan := ρ ch, send := some (ρ x), zero := .tuple #[] }] true .send) := by simp only [execOp, ho]
            rw [he]
            exact opSend_rel s (hr _ _ h1) (hr _ _ h2)
      | recv ty ch ok =>
        rw [ho] at hk; cases hk
        simp only
        cases h1 : opd G.C t ch with
        | none =>
          unfold opRecv opRecv1
          split
          · split <;> first | trivial | (split <;> first | trivial | (rename_i e; cases e))
          · trivial
        | some a =>
          have he : execOp ρ o = (do
            let .chan _ elem ← underlying ty | stuck "receive: channel type expected"
            pure (.comm #[{ chan := ρ ch, send := none, zero := ← zeroValue elem }] true (.recv ok))) := by simp only [execOp, ho]; rfl
          rw [he]
          exact opRecv_rel s (hr _ _ h1)
      | select cases' b =>
        rw [ho] at hk
        simp only [compK] at hk
        split at hk
        all_goals first
          | (exfalso; rename_i e; cases e; done)
          | (cases hk; done)
          | skip
        rename_i ch e heq
        cases heq; cases hk
        simp only
        cases h1 : opd G.C t ch with
        | none =>
          unfold opSelect opSelect1
          split <;> trivial
        | some a => exact opSelect_rel (ty := 0) s (hr _ _ h1) ho
      | _ => rw [ho] at hc; cases hc
  | call f =>
    cases ho : o.op with
    | call c =>
      rw [ho] at hk
      obtain ⟨cal, args, ats⟩ := c
      cases cal with
      | builtin b => simp only [compK, compB] at hk; split at hk <;> cases hk
      | value fv =>
        simp only [compK] at hk; cases hk
        simp only [stepK]
        rw [exec_callV ho]
        cases h1 : opd G.C t fv with
        | none => trivial
        | some fvv =>
          cases h2 : opds G.C t args.toList with
          | none => trivial
          | some vs =>
            have hl := opds_rel hr h2
            have : args.map ρ = ⟨args.toList.map ρ⟩ := by apply Array.ext'; simp
            rw [this]
            exact callV_rel (cs := cs) hok hC hex s (hr _ _ h1) hl
      | invoke r name =>
        simp only [compK] at hk; cases hk
        simp only [stepK]
        rw [exec_callI ho]
        cases h1 : opd G.C t r with
        | none => trivial
        | some rv =>
          cases h2 : opds G.C t args.toList with
          | none => trivial
          | some vs =>
            have hl := opds_rel hr h2
            have : #[ρ r] ++ args.map ρ = ⟨ρ r :: args.toList.map ρ⟩ := by apply Array.ext'; simp
            rw [this]
            exact callFn_rel (cs := cs) hok hC hex s (VRels.cons (hr _ _ h1) hl)
    | convert src dst x =>
      rw [ho] at hk; simp only [compK, compConv] at hk
      split at hk
      · split at hk
        · split at hk <;> cases hk
        · cases hk
      · cases hk
    | select cs' b =>
      rw [ho] at hk; simp only [compK] at hk
      split at hk <;> first | (exfalso; rename_i e; cases e; done) | cases hk
    | _ => rw [ho] at hk; cases hk

/-! regions in the text's order -/
theorem runOps_nil (ex : Exec) (t : Tr V) (ds : List D) (h : H) : runOps ex [] t ds h = .ok .normal t ds h := rfl
theorem runOps_skip (ex : Exec) (c : COp) (l : List COp) (t : Tr V) (ds : List D) (h : H) (hw : wantedC t c.g = false) : runOps ex (c :: l) t ds h = runOps ex l (putC t c.d undef) ds h := by
  obtain ⟨i, bef, g, d, k⟩ := c
  have hw' : wantedC t g = false := hw
  show Bool.rec (motive := fun _ => E) _ _ (wantedC t g) = _
  rw [hw']; rfl
theorem runOps_step (ex : Exec) (c : COp) (l : List COp) (t : Tr V) (ds : List D) (h : H) (hw : wantedC t c.g = true) : runOps ex (c :: l) t ds h = (stepK ex c.k t h).bindE fun v h' => runOps ex l (putC t c.d v) ds h' := by
  obtain ⟨i, bef, g, d, k⟩ := c
  have hw' : wantedC t g = true := hw
  show Bool.rec (motive := fun _ => E) _ _ (wantedC t g) = _
  rw [hw']
  cases k with
  | no => rfl
  | pu f => show Option.rec (motive := fun _ => E) _ _ (f t) = R.bindE _ (R.ofV h (f t)); cases f t <;> rfl
  | rd f => show Option.rec (motive := fun _ => E) _ _ (f t h) = R.bindE _ (R.ofV h (f t h)); cases f t h <;> rfl
  | al f => rfl
  | ef f => rfl
  | call f => rfl

theorem wantedC_none (t : Tr V) : wantedC t none = true := rfl
theorem wantedC_some (t : Tr V) (d : Pos) (want : Bool) : wantedC t (some (d, want)) = boolIs want (t.get undef d) := rfl
theorem putC_none (t : Tr V) (v : V) : putC t none v = t := rfl
theorem putC_some (t : Tr V) (d : Pos) (v : V) : putC t (some d) v = t.set undef d v := rfl

def boolOf : Value → Option Bool
  | .bool b => some b
  | _ => none
theorem boolIs_rel {want : Bool} {v : V} {c : Value} (hv : VRel μ v c) : boolIs want v = (boolOf c == some want) := by
  cases v with
  | bool b => cases hv; cases b <;> cases want <;> rfl
  | int => cases hv; rfl
  | str => cases hv; rfl
  | ptr => obtain ⟨l, _, rfl⟩ := hv; rfl
  | nilp => cases hv; rfl
  | slice => obtain ⟨l, m, _, rfl, _⟩ := hv; rfl
  | nilsl => cases hv; rfl
  | map => obtain ⟨l, _, rfl⟩ := hv; rfl
  | nilmap => cases hv; rfl
  | chan => obtain ⟨l, _, rfl⟩ := hv; rfl
  | nilchan => cases hv; rfl
  | func => obtain ⟨a, b, rfl, _⟩ := hv; rfl
  | yield => obtain ⟨l, _, rfl⟩ := hv; rfl
  | nilfn => cases hv; rfl
  | iface => obtain ⟨l, rfl, _⟩ := hv; rfl
  | nilif => cases hv; rfl
  | agg => obtain ⟨l, rfl, _⟩ := hv; rfl
  | tuple => obtain ⟨l, rfl, _⟩ := hv; rfl
  | junk => obtain ⟨k, n, rfl⟩ := hv; rfl

/-- the guard of an operation, from what holds of its place -/
theorem wanted_rel {ops : Array Oper} {o : Oper} {g : Option (Pos × Bool)} {tmps : Array Value} (hg : compG ops.toList o.guard = some g)
    (hv : ∀ j want d, o.guard = some (j, want) → (ops[j]?).bind (·.dst) = some d → VRel μ (getT t d) (tmps.getD d Go.undef)) : wantedC t g = Region.wanted o (yielded ops tmps) := by
  unfold Region.wanted
  cases hgu : o.guard with
  | none => rw [hgu] at hg; simp only [compG, Option.some.injEq] at hg; subst hg; rfl
  | some jw =>
    obtain ⟨j, want⟩ := jw
    rw [hgu] at hg
    simp only [compG] at hg
    split at hg
    · rename_i o' ho'
      split at hg
      · rename_i d hd
        cases hg
        have ho2 : ops[j]? = some o' := by rw [← ho']; simp
        have hb : (ops[j]?).bind (·.dst) = some d := by rw [ho2]; exact hd
        have := hv j want d hgu hb
        rw [wantedC_some]
        show boolIs want (getT t d) = _
        rw [boolIs_rel this]
        simp only [yielded, hb, Option.bind_some, Array.getD_eq_getD_getElem?]
        cases htm : tmps[d]? with
        | none => rfl
        | some x => simp only [Option.getD_some]; cases x <;> rfl
      · cases hg
    · cases hg

theorem TRel.putC {n : Nat} {a : Go.Act} (ht : TRel μ n t a.tmps) {dst : Option Tmp} {d : Option Pos} (hd : compD n dst = some d) {v : V} {c : Value} (hv : VRel μ v c) :
    TRel μ n (AE.putC t d v) (a.put dst c).tmps := by
  cases dst with
  | none => simp only [compD, Option.some.injEq] at hd; subst hd; exact ht
  | some x =>
    simp only [compD] at hd
    split at hd
    · rename_i hlt; cases hd
      rw [bltN, decide_eq_true_eq] at hlt
      exact ht.set hlt hv
    · cases hd
theorem put_defers (a : Go.Act) (dst : Option Tmp) (c : Value) : (a.put dst c).defers = a.defers := by cases dst <;> rfl

theorem Lands.from {nx nx1 : Pos} {μ1 : Inj} {nt : Nat} {m m1 : Machine} {b : Frame} {k : List Item} {e : Ex} {t' : Tr V} {ds' : List D} {h' : H} (hm : μ.ext nx μ1) (hn : nx.toNat ≤ nx1.toNat) (hs : Steps G.C.P m m1)
    (g : Lands G nx1 μ1 nt m1 b k cs e t' ds' h') : Lands G nx μ nt m b k cs e t' ds' h' := by
  obtain ⟨μ', a', w', h1, h2, h3, h4, h5, h6, h7⟩ := g
  exact ⟨μ', a', w', hm.trans h1 hn, Nat.le_trans hn h2, h3, h4, h5, h6, h7.of_steps hs⟩

theorem not_defer {C : Ctx} {o : Oper} (h : compK C o.op ≠ .no) : ∀ c, o.op ≠ .defer c := fun c e => h (by rw [e]; rfl)

theorem op_step {P : Program} {b : Frame} {a : Go.Act} {k : List Item} {ops : Array Oper} {i : Nat} {rest : List Nat} {o : Oper} {c : Value} {w' : World} (ho : ops[i]? = some o) (hw : Region.wanted o (yielded ops a.tmps) = true) (hnd : ∀ c, o.op ≠ .defer c)
    (g : Goes P (b.atR a (.inRegion ops (i :: rest) :: k)) cs (execOp a.eval o) w c w') :
    Steps P (lone (b.atR a (.inRegion ops (i :: rest) :: k)) cs w) (lone (b.atR (a.put o.dst c) (.inRegion ops rest :: k)) cs w') := by
  have := g _ w (by rw [stepGR_op ho hw, Oper.semAt_eq _ _ _ hnd])
  rwa [Frame.finish_atR, ho] at this

theorem runOps_rel {ex : Exec} (hC : CtxOk G.C) (hex : ExOk G ex) {ops : Array Oper} {n : Nat} {b : Frame} {k : List Item} : ∀ (L : List (Oper × Nat × Nat)) (l : List COp), (∀ x ∈ L, ops[x.2.1]? = some x.1) → compOps G.C n ops.toList L = some l →
    ∀ (t : Tr V) (ds : List D) (h : H) (a : Go.Act) (μ : Inj) (w : World), Sim G μ h w → TRel μ n t a.tmps → DRels μ ds a.defers → Rd b ds →
    (runOps ex l t ds h).any (Lands G h.nx μ n (lone (b.atR a (.inRegion ops (L.map (·.2.1)) :: k)) cs w) b k cs)
  | [], l, hL, hl, t, ds, h, a, μ, w, s, ht, hd, hrd => by
    simp only [compOps, Option.some.injEq] at hl; subst hl
    rw [runOps_nil]
    exact ⟨μ, a, w, Inj.ext.refl _ _, Nat.le_refl _, s, ht, hd, hrd, .one stepR_region_end⟩
  | (o, i, bb) :: L, l, hL, hl, t, ds, h, a, μ, w, s, ht, hd, hrd => by
    simp only [compOps] at hl
    split at hl
    · rename_i g d l' hg hdd hl'
      cases hl
      have ho : ops[i]? = some o := hL (o, i, bb) (by simp)
      have hL' : ∀ x ∈ L, ops[x.2.1]? = some x.1 := fun x hx => hL x (by simp [hx])
      have hwant : wantedC t g = Region.wanted o (yielded ops a.tmps) := wanted_rel hg (fun _ _ d _ _ => ht.2 d)
      cases hw : wantedC t g with
      | false =>
        rw [runOps_skip _ _ _ _ _ _ hw]
        have ih := runOps_rel (k := k) hC hex L l' hL' hl' (putC t d undef) ds h (a.put o.dst Go.undef) μ w s (ht.putC hdd (VRel.undef _)) (by rw [put_defers]; exact hd) hrd
        refine E.any_mono (fun e t' ds' h' g => ?_) _ ih
        refine g.from (Inj.ext.refl _ _) (Nat.le_refl _) (.one ?_)
        have hs := stepR_op_skip (P := G.C.P) (b := b) (a := a) (k := k) (cs := cs) (w := w) (ops := ops) (i := i) (rest := L.map (·.2.1)) (by rw [ho]; simp only [Option.map_some, Option.getD_some]; rw [← hwant]; exact hw)
        rw [ho] at hs
        exact hs
      | true =>
        rw [runOps_step _ _ _ _ _ _ hw]
        refine R.any_bindE _ ?_
        have hor := opd_rel ht s.gl
        by_cases hno : compK G.C o.op = .no
        · simp only [hno, stepK]; trivial
        have hnd := not_defer hno
        have hfr : FrOk (b.atR a (.inRegion ops (i :: L.map (·.2.1)) :: k)) := trivial
        refine R.any_mono ?_ _ (op_rel (cs := cs) hfr hC hex s (o := o) hor)
        rintro v h' ⟨μ', w', c, h1, h2, h3, h4, h5⟩
        have hst := op_step (b := b) (k := k) (rest := L.map (·.2.1)) ho (by rw [← hwant]; exact hw) hnd h5
        have ih := runOps_rel (k := k) hC hex L l' hL' hl' (putC t d v) ds h' (a.put o.dst c) μ' w' h3 ((ht.mono h1.1).putC hdd h4) (by rw [put_defers]; exact hd.mono h1.1) hrd
        exact E.any_mono (fun e t' ds' h'' g => g.from h1 h2 hst) _ ih
    · cases hl
end
end Go.AE
