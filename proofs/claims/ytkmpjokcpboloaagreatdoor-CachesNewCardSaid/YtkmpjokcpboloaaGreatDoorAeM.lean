/-
  A part of the abstract evaluator's soundness: its operations agree with the model's. No conditions beyond the theorems' own.
-/
import Derived.Test.YtkmpjokcpboloaaGreatDoorAeL
set_option linter.unusedSimpArgs false
set_option linter.unusedVariables false
namespace Go.AE

section
variable {G : Gp} {μ : Inj} {h : H} {w : World} {t : Tr V} {ρ : Operand → Value}

def Found (μ : Inj) (cs : List MapEntry) (i : Nat) (r : Option (Nat × V × Nat)) (q : Option (Nat × Value)) : Prop := match r with
  | none => q = none
  | some (j, v, b) => ∃ d e, q = some (j, d) ∧ VRel μ v d ∧ i ≤ j ∧ cs[j - i]? = some e ∧ e.val = d ∧ e.born = b

theorem sameNow_spec {d : TypeDesc} {a b : Value} {r : Bool} (hs : Instr.sameNow d a b = some r) :
    (∃ q k x y, d = .int q ∧ a = .int k x ∧ b = .int k y ∧ r = (x == y)) ∨ (∃ x y, d = .string ∧ a = .string x ∧ b = .string y ∧ r = (x == y)) ∨ (∃ x y, d = .bool ∧ a = .bool x ∧ b = .bool y ∧ r = (x == y)) := by
  unfold Instr.sameNow at hs
  split at hs
  · split at hs
    · rename_i hk; subst hk; cases hs; exact .inl ⟨_, _, _, _, rfl, rfl, rfl, rfl⟩
    · cases hs
  · cases hs; exact .inr (.inl ⟨_, _, rfl, rfl, rfl, rfl⟩)
  · cases hs; exact .inr (.inr ⟨_, _, rfl, rfl, rfl, rfl⟩)
  · cases hs

theorem findNow_rel {d : TypeDesc} {ks : List Kd} {k : V} {c : Value} (hx : VRel μ k c) :
    ∀ (es : List (V × V × Nat)) (cs : List MapEntry) (i : Nat) (r : Option (Nat × V × Nat)), ERels μ es cs → findK ks k es i = some r →
    ∀ q, Instr.findNow d c cs i = some q → Found μ cs i r q
  | [], cs, i, r, he, hf, q, hq => by
    cases he
    simp only [findK, Option.some.injEq] at hf; subst hf
    simp only [Instr.findNow, Option.some.injEq] at hq; subst hq; rfl
  | (x, v, b) :: es, cs, i, r, ⟨e, cs', ee, ⟨h1, h2, h3⟩, hs⟩, hf, q, hq => by
    subst ee
    simp only [findK] at hf
    simp only [Instr.findNow] at hq
    have agree : ∀ p p', keyEq ks k x = some p → Instr.sameNow d c e.key = some p' → p = p' := by
      intro p p' hp hp'
      rcases sameNow_spec hp' with ⟨qq, kk, xx, yy, rfl, rfl, e2, rfl⟩ | ⟨xx, yy, rfl, rfl, e2, rfl⟩ | ⟨xx, yy, rfl, rfl, e2, rfl⟩
      all_goals
        rw [e2] at h1
        cases k <;> first
          | (obtain ⟨_, hc, _⟩ := hx; cases hc; done)
          | (obtain ⟨_, _, hc⟩ := hx; cases hc; done)
          | (obtain ⟨_, _, _, hc, _⟩ := hx; cases hc; done)
          | (obtain ⟨_, _, hc, _⟩ := hx; cases hc; done)
          | (cases hx; done)
          | skip
        all_goals
          cases x <;> first
            | (obtain ⟨_, hc, _⟩ := h1; cases hc; done)
            | (obtain ⟨_, _, hc⟩ := h1; cases hc; done)
            | (obtain ⟨_, _, _, hc, _⟩ := h1; cases hc; done)
            | (obtain ⟨_, _, hc, _⟩ := h1; cases hc; done)
            | (cases h1; done)
            | skip
        all_goals
          simp only [keyEq] at hp
          split at hp
          · rename_i kd
            first
              | (cases hx; cases h1
                 cases kd <;> simp only [eqCell] at hp <;> first
                   | (cases hp; done)
                   | (cases hp; first | (rw [eqI_eq]; rfl) | (rw [eqB_eq]) | (rw [eqBytes_eq, Bool.eq_iff_iff]; simp [beq_toListBytes, Lib.toList_data]))
                   | (split at hp
                      · cases hp; rw [eqI_eq]; rfl
                      · cases hp))
              | (cases kd <;> simp [eqCell] at hp)
          · cases hp
    cases hsn : Instr.sameNow d c e.key with
    | none => rw [hsn] at hq; cases hq
    | some p' =>
      rw [hsn] at hq
      cases p'
      · simp only at hq
        split at hf
        · rename_i hk; exact absurd (agree _ _ hk hsn) (by simp)
        · have := findNow_rel hx es cs' (i + 1) r hs hf q hq
          unfold Found at this ⊢
          cases r with
          | none => exact this
          | some pp =>
            obtain ⟨j, v', b'⟩ := pp
            obtain ⟨d', e', hd, hv, hle, hat, h5, h6⟩ := this
            refine ⟨d', e', hd, hv, by omega, ?_, h5, h6⟩
            rw [show j - i = (j - (i + 1)) + 1 by omega]
            simpa using hat
        · cases hf
      · simp only [Option.some.injEq] at hq; subst hq
        split at hf
        · cases hf; exact ⟨e.val, e, rfl, h2, Nat.le_refl _, by simp, rfl, h3.symm⟩
        · rename_i hk; exact absurd (agree _ _ hk hsn) (by simp)
        · cases hf

theorem findKey_rel {C : Ctx} {ty : TypeId} {ks : List Kd} (hk : kinds C.P ty = some ks) {k : V} {c : Value} (hx : VRel μ k c) (hok : keyOk C ty ks k = true)
    {es : List (V × V × Nat)} {cs : List MapEntry} {r : Option (Nat × V × Nat)} (he : ERels μ es cs) (hf : findK ks k es 0 = some r) (w : World) :
    ∃ q, (Instr.findKey ty c cs).run C.P w = .ok q w ∧ Found μ cs 0 r q := by
  obtain ⟨l, hl, _⟩ := kinds_spec hk
  have hu : ∃ d, C.P.underlying ty = some d := by
    unfold flat at hl
    cases hu : C.P.underlying ty with
    | some d => exact ⟨d, rfl⟩
    | none => simp [hu] at hl
  obtain ⟨d, hu⟩ := hu
  cases hn : Instr.findNow d c cs 0 with
  | some q => exact ⟨q, by simp [Instr.findKey, run_underlying hu, hn], findNow_rel hx es cs 0 r he hf q hn⟩
  | none =>
    obtain ⟨q, hrun, hres⟩ := findAsk_rel hk hx hok es cs 0 r he hf
    exact ⟨q, by simp [Instr.findKey, run_underlying hu, hn, hrun], hres⟩

theorem mapTy_spec {C : Ctx} {ty : TypeId} {mt : MT} (hm : mapTy C ty = some mt) : C.P.underlying ty = some (.map mt.key mt.elem) ∧ kinds C.P mt.key = some mt.ks := by
  unfold mapTy at hm
  split at hm
  · rename_i k e hu
    split at hm
    · rename_i ks hks; cases hm; exact ⟨hu, hks⟩
    · cases hm
  · cases hm

theorem run_lookup {C : Ctx} {ty key elem : TypeId} {c d : Value} {cs : List MapEntry} {ok : Bool} {q : Option (Nat × Value)} {z : Value} (hu : C.P.underlying ty = some (.map key elem))
    (hc : (c = .map none ∧ cs = []) ∨ ∃ r clock, c = .map (some r) ∧ w.heap[r]? = some (.map ⟨cs⟩ clock)) (hck : (Instr.checkKey cs.isEmpty 10000 key d).run C.P w = .ok () w)
    (hf : (Instr.findKey key d cs).run C.P w = .ok q w) (hz : q = none → (zeroValue elem).run C.P w = .ok z w) :
    (Instr.lookup ty c d ok).run C.P w = .ok (if ok then .tuple #[(q.map (·.2)).getD z, .bool q.isSome] else (q.map (·.2)).getD z) w := by
  rcases hc with ⟨rfl, rfl⟩ | ⟨r, clock, rfl, hb⟩
  · simp only [List.isEmpty_nil] at hck
    cases q with
    | none => simp [Instr.lookup, run_underlying hu, hck, hf, hz rfl]
    | some p => simp [Instr.lookup, run_underlying hu, hck, hf]
  · have hemp : (⟨cs⟩ : Array MapEntry).isEmpty = cs.isEmpty := by simp
    cases q with
    | none => simp [Instr.lookup, run_underlying hu, run_getObj hb (by simp), hemp, hck, hf, hz rfl]
    | some p => simp [Instr.lookup, run_underlying hu, run_getObj hb (by simp), hemp, hck, hf]

theorem opLookup_rel (s : Sim G μ h w) {ty : TypeId} {x k : V} {c d : Value} {ok : Bool} {v : V} (hx : VRel μ x c) (hkk : VRel μ k d) (hv : opLookup G.C h ty (some x) (some k) ok = some v) :
    ValW G μ w (Instr.lookup ty c d ok) v := by
  unfold opLookup at hv
  split at hv
  · rename_i mt k' hm e; cases e
    obtain ⟨hu, hks⟩ := mapTy_spec hm
    split at hv
    · rename_i es hok hes
      have hes' : ∃ cs : List MapEntry, ERels μ es cs ∧ ((c = .map none ∧ cs = []) ∨ ∃ r clock, c = .map (some r) ∧ w.heap[r]? = some (.map ⟨cs⟩ clock)) := by
        unfold entriesOf at hes
        split at hes
        · rename_i e; cases e; cases hes; cases hx
          exact ⟨[], rfl, .inl ⟨rfl, rfl⟩⟩
        · rename_i r e; cases e
          split at hes
          · rename_i es' clock hg; cases hes
            obtain ⟨l, hl, rfl⟩ := hx
            have := s.obj _ _ hl
            rw [hg] at this
            obtain ⟨cs, hb, he⟩ := this
            exact ⟨cs, he, .inr ⟨_, _, rfl, hb⟩⟩
          · cases hes
        · cases hes
      obtain ⟨cs, he, hcs⟩ := hes'
      have hck := keyOk_check hks hkk hok cs.isEmpty w
      split at hv
      · rename_i j y b hr; cases hv
        obtain ⟨q0, hq, hq0⟩ := findKey_rel hks hkk hok he hr w
        obtain ⟨dd, e0, rfl, hv0, _⟩ := hq0
        exact ⟨_, okPair_rel hv0 true, by rw [run_lookup (z := dd) hu hcs hck hq (by simp)]; rfl⟩
      · rename_i hr
        split at hv
        · rename_i z hz; cases hv
          obtain ⟨i, zc, hi, hzc, hzr⟩ := zeroV_spec hz
          obtain ⟨q0, hq, hq0⟩ := findKey_rel hks hkk hok he hr w
          simp only [Found] at hq0; subst hq0
          exact ⟨_, okPair_rel (hzr μ) false, by rw [run_lookup (z := zc) hu hcs hck hq (fun _ => run_zero hi hzc)]; rfl⟩
        · cases hv
      · cases hv
    · cases hv
  · cases hv

theorem find_rel (st : Nat) : ∀ {es : List (V × V × Nat)} {cs : List MapEntry}, ERels μ es cs → ∀ {k v b}, es.find? (fun e => Nat.beq e.2.2 st) = some (k, v, b) →
    ∃ e, cs.find? (fun e => e.born == st) = some e ∧ VRel μ k e.key ∧ VRel μ v e.val
  | [], _, _, _, _, _, hf => by simp at hf
  | (x, y, n) :: es, _, ⟨e, cs, ee, ⟨h1, h2, h3⟩, hs⟩, k, v, b, hf => by
    subst ee
    simp only at h3
    rw [List.find?_cons] at hf
    have hb : Nat.beq n st = (e.born == st) := by rw [beqN, h3, Bool.eq_iff_iff]; simp
    simp only [hb] at hf
    cases hq : e.born == st with
    | true => rw [hq] at hf; cases hf; exact ⟨e, by simp [List.find?_cons, hq], h1, h2⟩
    | false =>
      rw [hq] at hf
      obtain ⟨e', h4, h5⟩ := find_rel st hs hf
      exact ⟨e', by simp [List.find?_cons, hq, h4], h5⟩

theorem opEntry_rel (s : Sim G μ h w) {x : V} {c : Value} {v : V} (hx : VRel μ x c) (hv : opEntry h (some x) = some v) : ValW G μ w (Instr.entry c) v := by
  unfold opEntry at hv
  split at hv
  · rename_i r e; cases e
    obtain ⟨l, hl, rfl⟩ := hx
    split at hv
    · rename_i m a seen stepped hg
      split at hv
      · rename_i st es clock hst hg2
        split at hv
        · rename_i hcl
          rw [beqN, decide_eq_true_eq] at hcl; subst hcl
          split at hv
          · rename_i k vv b hf; cases hv
            have o1 := s.obj _ _ hl
            rw [hg] at o1
            obtain ⟨m', hb1, ⟨lm, hlm, rfl⟩, hz⟩ := o1
            have o2 := s.obj _ _ hlm
            rw [hg2] at o2
            obtain ⟨cs, hb2, he⟩ := o2
            obtain ⟨e, hfe, h1, h2⟩ := find_rel st he hf
            have hback : (⟨seen⟩ : Array Nat).back? = some st := by
              rw [← Array.getLast?_toList]; exact hst
            refine ⟨.tuple #[e.key, e.val], ⟨[e.key, e.val], rfl, VRels.cons h1 (VRels.cons h2 rfl)⟩, ?_⟩
            simp only [Instr.entry, hz, Nat.add_zero, Sem.run_bind, run_getObj hb1 (by simp), Result.andThen_ok, hback, run_getObj hb2 (by simp)]
            simp [hfe]
          · cases hv
        · cases hv
      · cases hv
    · cases hv
  · cases hv

/-- every operation that reads memory and leaves it alone -/
theorem rd_rel (s : Sim G μ h w) {o : Oper} {f : Tr V → H → Option V} (hk : compK G.C o.op = .rd f) (hr : OR G.C μ t ρ) {v : V} (hv : f t h = some v) : ∃ c, VRel μ v c ∧ Reads G ρ o w c := by
  cases ho : o.op with
  | load ty a =>
    rw [ho] at hk; cases hk
    obtain ⟨y, hy, hv⟩ := of_some (f := opLoad G.C h ty) rfl hv
    exact reads_of (s := Instr.loadAt ty (ρ a)) (by simp [execOp, ho]) (opLoad_rel s (hr _ _ hy) hv)
  | slice ty x lo hi mx =>
    rw [ho] at hk; cases hk
    simp only at hv
    unfold opSlice at hv
    split at hv
    · cases hv
    · rename_i y hy
      split at hv
      · rename_i lo' hi' mx' hlo hhi hmx
        exact reads_of (s := Instr.sliceAt ty (ρ x) (lo.map ρ) (hi.map ρ) (mx.map ρ)) (by simp [execOp, ho]) (opSlice_rel s (hr _ _ hy) (opOpt_rel hr hlo) (opOpt_rel hr hhi) (opOpt_rel hr hmx) hv)
      · cases hv
  | lookup ty x ix ok =>
    rw [ho] at hk; cases hk
    simp only at hv
    cases hx : opd G.C t x with
    | none => rw [hx] at hv; simp only [opLookup, entriesOf] at hv; split at hv <;> first | cases hv | (split at hv <;> first | cases hv | (rename_i e; cases e))
    | some a =>
      cases hi : opd G.C t ix with
      | none => rw [hi] at hv; simp only [opLookup] at hv; split at hv <;> first | cases hv | (rename_i e; cases e)
      | some b =>
        rw [hx, hi] at hv
        exact reads_of (s := Instr.lookup ty (ρ x) (ρ ix) ok) (by simp [execOp, ho]) (opLookup_rel s (hr _ _ hx) (hr _ _ hi) hv)
  | entry it =>
    rw [ho] at hk; cases hk
    obtain ⟨y, hy, hv⟩ := of_some (f := opEntry h) rfl hv
    exact reads_of (s := Instr.entry (ρ it)) (by simp [execOp, ho]) (opEntry_rel s (hr _ _ hy) hv)
  | convert src dst x =>
    rw [ho] at hk; simp only [compK, compConv] at hk
    split at hk
    · rename_i sd dd hs hd
      split at hk
      · split at hk <;> cases hk
      · cases hk
        obtain ⟨y, hy, hv⟩ := of_some (f := opConvO G.C h sd dd) rfl hv
        exact reads_of (s := convert src dst (ρ x)) (by simp [execOp, ho]) (opConv_rel s hs hd (hr _ _ hy) hv)
    · cases hk
  | call c =>
    rw [ho] at hk
    obtain ⟨cal, args, ats⟩ := c
    cases cal with
    | builtin b =>
      simp only [compK, compB] at hk
      split at hk
      · cases hk
        simp only [opLookB] at hv
        split at hv
        · rename_i vs hvs
          have hrel := opds_rel hr hvs
          obtain ⟨c, hc, hrun⟩ := lookB_rel (oty := o.type) (consts := args.map fun | .const _ => true | _ => false) s (args := args.map ρ) (by simpa using hrel) hv
          exact ⟨c, hc, by unfold Reads; rw [exec_builtin ho]; exact hrun⟩
        · cases hv
      · cases hk
    | _ => cases hk
  | select cs b =>
    rw [ho] at hk; simp only [compK] at hk
    split at hk <;> first | (exfalso; rename_i e; cases e; done) | cases hk
  | _ => rw [ho] at hk; cases hk
end
end Go.AE
