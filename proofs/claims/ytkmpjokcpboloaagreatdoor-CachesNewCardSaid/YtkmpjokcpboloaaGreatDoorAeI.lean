/-
  A part of the abstract evaluator's soundness: its operations agree with the model's. No conditions beyond the theorems' own.
-/
import Derived.Test.YtkmpjokcpboloaaGreatDoorAeH
set_option linter.unusedSimpArgs false
set_option linter.unusedVariables false
namespace Go.AE

section
variable {C : Ctx} {μ : Inj} {t : Tr V} {ρ : Operand → Value}

theorem add_none (b o n : Nat) : (⟨b, o, none⟩ : Addr).add n = ⟨b, o + n, none⟩ := by
  unfold Addr.add; split
  · rename_i h; subst h; rfl
  · rfl

theorem zipP_fst : ∀ (ps : List (Nat × Operand)) (vs : List V), ps.length = vs.length → (zipP ps vs).map (·.1) = ps.map (·.1)
  | [], _, _ => by simp [zipP]
  | _ :: _, [], h => by simp at h
  | (i, x) :: ps, v :: vs, h => by simp only [zipP, List.map_cons]; rw [zipP_fst ps vs (by simpa using h)]
theorem zipP_snd : ∀ (ps : List (Nat × Operand)) (vs : List V), ps.length = vs.length → (zipP ps vs).map (·.2) = vs
  | [], [], _ => by simp [zipP]
  | [], _ :: _, h => by simp at h
  | _ :: _, [], h => by simp at h
  | (i, x) :: ps, v :: vs, h => by simp only [zipP, List.map_cons]; rw [zipP_snd ps vs (by simpa using h)]

theorem run_places (C : Ctx) (w : World) : ∀ (fs : List Field) (l : List (Nat × Nat)), placesOf C fs = some l →
    (fs.mapM (m := Sem) fun f => do pure (f.offset, ← sizeOf f.type)).run C.P w = .ok l w
  | [], l, h => by simp only [placesOf, Option.some.injEq] at h; subst h; simp
  | f :: fs, l, h => by
    simp only [placesOf] at h
    split at h
    · rename_i n l' hn hl; cases h
      have ih := run_places C w fs l' hl
      rw [List.mapM_cons]
      simp only [Sem.run_bind, run_size hn, Result.andThen_ok, Sem.run_pure, ih]
    · cases h

theorem parts_rel (hr : OR C μ t ρ) {parts : Array (Nat × Operand)} {vs : List V} (h : opds C t (parts.toList.map (·.2)) = some vs) :
    ((zipP parts.toList vs).map (·.1) = ((parts.map fun (i, x) => (i, ρ x)).toList).map (·.1)) ∧ VRels μ ((zipP parts.toList vs).map (·.2)) (((parts.map fun (i, x) => (i, ρ x)).toList).map (·.2)) := by
  have hv := opds_rel hr h
  have hl : parts.toList.length = vs.length := by have := hv.length; simpa using this.symm
  rw [zipP_fst _ _ hl, zipP_snd _ _ hl]
  refine ⟨by simp [List.map_map, Function.comp_def], ?_⟩
  simpa [List.map_map, Function.comp_def] using hv

theorem opBuild_rel (hr : OR C μ t ρ) {ty : TypeId} {parts : Array (Nat × Operand)} {v : V} (h : opBuild C ty parts.toList (opds C t (parts.toList.map (·.2))) = some v) :
    ValS C μ (Instr.build ty (parts.map fun (i, x) => (i, ρ x))) v := by
  unfold opBuild at h
  split at h
  · rename_i vs z hvs hz
    obtain ⟨i, zc, hi, hzc, hzr⟩ := zeroV_spec hz
    obtain ⟨e1, e2⟩ := parts_rel hr hvs
    have hzz := V.cells_rel (hzr μ)
    split at h
    · rename_i fs hu
      split at h
      · rename_i pl hpl
        unfold aggO at h
        split at h
        · rename_i cs' hf; cases h
          obtain ⟨l', hl', hr'⟩ := fill_rel (μ := μ) (place := placeS pl) (place' := fun i => (pl.toArray)[i]?) (fun i x hx => by simpa [placeS] using hx) e1 e2 (l := zc.cells.toList) hzz hf
          refine ⟨.agg ⟨l'⟩, ⟨l', rfl, hr'⟩, fun w => ?_⟩
          simp only [Instr.build, Sem.run_bind, run_zero hi hzc, Result.andThen_ok, run_underlying' hu]
          rw [← Array.toArray_toList (xs := fs), List.mapM_toArray]
          simp only [Sem.run_map, run_places C w _ _ hpl, Result.andThen_ok]
          rw [hl']
          rfl
        · cases h
      · cases h
    · rename_i len e hu
      split at h
      · rename_i sz hsz
        unfold aggO at h
        split at h
        · rename_i cs' hf; cases h
          obtain ⟨l', hl', hr'⟩ := fill_rel (μ := μ) (place := placeA sz) (place' := fun i => some (i * sz, sz)) (fun i x hx => hx) e1 e2 (l := zc.cells.toList) hzz hf
          refine ⟨.agg ⟨l'⟩, ⟨l', rfl, hr'⟩, fun w => ?_⟩
          simp only [Instr.build, Sem.run_bind, run_zero hi hzc, Result.andThen_ok, run_underlying' hu, run_size hsz]
          rw [hl']
          rfl
        · cases h
      · cases h
    · cases h
  · cases h

theorem opNilCheck_rel {o : Oper} {x : Operand} (ho : o.op = .nilCheck x) {v : V} (hr : OR C μ t ρ) (h : opNilCheck (opd C t x) = some v) : ∃ c, VRel μ v c ∧ Pure C ρ o c := by
  unfold opNilCheck at h
  split at h
  · rename_i b off hx; cases h
    obtain ⟨l, hl, e⟩ := hr _ _ hx
    exact ⟨_, ⟨l, hl, rfl⟩, fun w => by simp [execOp, ho, e]⟩
  · rename_i u y hx; cases h
    obtain ⟨c', e, hc⟩ := hr _ _ hx
    exact ⟨_, ⟨c', rfl, hc⟩, fun w => by simp [execOp, ho, e]⟩
  · rename_i f a c hx; cases h
    obtain ⟨a', c', e, ha, hc⟩ := hr _ _ hx
    exact ⟨_, ⟨a', c', rfl, ha, hc⟩, fun w => by simp [execOp, ho, e]⟩
  · rename_i l hx; cases h
    obtain ⟨l, hl, e⟩ := hr _ _ hx
    exact ⟨_, ⟨l, hl, rfl⟩, fun w => by simp [execOp, ho, e]⟩
  · cases h

theorem opUn_rel {op : UnOp} {x : V} {c : Value} {v : V} (hx : VRel μ x c) (h : opUn op (some x) = some v) : ValS C μ (Op.unary op c) v := by
  unfold opUn at h
  split at h
  · rename_i b e; cases e; cases hx
    split at h
    · cases h; exact ⟨_, rfl, fun w => by simp [Op.unary]⟩
    · cases h
  · rename_i k n e; cases e; cases hx
    split at h
    · cases h; exact ⟨_, rfl, fun w => by simp [Op.unary, Op.intArith, wrapF_eq]⟩
    · cases h
  · cases h

theorem opIface_rel {ty : TypeId} {x : V} {c : Value} {v : V} (hx : VRel μ x c) (h : opIface C ty (some x) = some v) : ValS C μ (Instr.makeInterface ty c) v := by
  unfold opIface at h
  split at h
  · rename_i e; cases e
  · rename_i y e; cases e
    split at h
    · cases h
    · rename_i d hd hu; cases h
      refine ⟨_, ⟨c, rfl, hx⟩, fun w => ?_⟩
      simp only [Instr.makeInterface, Sem.run_bind, run_underlying' hu, Result.andThen_ok]
      cases d <;> first | rfl | (rename_i ms; exact (hd ms rfl).elim)
    · cases h

theorem opFieldAddr_rel {st : TypeId} {f : Nat} {x : V} {c : Value} {v : V} (hx : VRel μ x c) (h : opFieldAddr C st f (some x) = some v) : ValS C μ (Instr.fieldAt st c f) v := by
  unfold opFieldAddr at h
  split at h
  · rename_i b off e; cases e
    obtain ⟨l, hl, rfl⟩ := hx
    split at h
    · rename_i fs hu
      split at h
      · rename_i fd hf
        split at h
        · rename_i n hn; cases h
          refine ⟨_, ⟨l, hl, rfl⟩, fun w => ?_⟩
          simp only [Instr.fieldAt, Sem.run_bind, run_underlying' hu, Result.andThen_ok, hf, Instr.sureAddr, Sem.run_pure, fieldPlace, run_size hn]
          simp [add_none, Nat.add_assoc]
        · cases h
      · cases h
    · cases h
  · cases h

theorem opField_rel {ty : TypeId} {f : Nat} {x : V} {c : Value} {v : V} (hx : VRel μ x c) (h : opField C ty f (some x) = some v) : ValS C μ (Instr.field ty c f) v := by
  unfold opField at h
  split at h
  · rename_i cs e; cases e
    obtain ⟨l, rfl, hl⟩ := hx
    split at h
    · rename_i fs hu
      split at h
      · rename_i fd hf
        obtain ⟨c, hc, hr⟩ := run_part hl h
        exact ⟨c, hc, fun w => by simp only [Instr.field, Sem.run_bind, run_underlying' hu, Result.andThen_ok, hf, asAgg, Sem.run_pure, hr]⟩
      · cases h
    · cases h
  · cases h

theorem inO_spec {i len : Nat} {x v : V} (h : inO i len x = some v) : i < len ∧ v = x := by
  unfold inO at h; split at h
  · rename_i hb; rw [bltN, decide_eq_true_eq] at hb; cases h; exact ⟨hb, rfl⟩
  · cases h

theorem opIndexAddr_rel {ty : TypeId} {x ix : V} {c d : Value} {v : V} (hx : VRel μ x c) (hi : VRel μ ix d) (h : opIndexAddr C ty (some x) (some ix) = some v) : ValS C μ (Instr.indexAt ty c d) v := by
  unfold opIndexAddr at h
  split at h
  · rename_i k i e; cases e
    cases hi
    split at h
    · cases h
    · rename_i n hn
      have := natI_eq hn; subst this
      split at h
      · rename_i len e b off hu ex; cases ex
        obtain ⟨l, hl, rfl⟩ := hx
        split at h
        · rename_i sz hsz
          obtain ⟨hlt, rfl⟩ := inO_spec h
          refine ⟨_, ⟨l, hl, rfl⟩, fun w => ?_⟩
          simp only [Instr.indexAt, asIntOf, Sem.run_bind, Sem.run_pure, Result.andThen_ok, run_underlying' hu, Instr.sureAddr]
          rw [if_pos ⟨by omega, by omega⟩]
          simp [run_size hsz, add_none, Nat.add_assoc]
        · cases h
      · rename_i e b off len cap hu ex; cases ex
        obtain ⟨l, m, hl, rfl, _⟩ := hx
        split at h
        · rename_i sz hsz
          obtain ⟨hlt, rfl⟩ := inO_spec h
          refine ⟨_, ⟨l, hl, rfl⟩, fun w => ?_⟩
          simp only [Instr.indexAt, asIntOf, Sem.run_bind, Sem.run_pure, Result.andThen_ok, run_underlying' hu]
          rw [if_pos ⟨by omega, by omega⟩]
          simp [run_size hsz, add_none, Nat.add_assoc]
        · cases h
      · cases h
  · cases h

theorem opIndex_rel {ty : TypeId} {x ix : V} {c d : Value} {v : V} (hx : VRel μ x c) (hi : VRel μ ix d) (h : opIndex C ty (some x) (some ix) = some v) : ValS C μ (Instr.index ty c d) v := by
  unfold opIndex at h
  split at h
  · rename_i k i e; cases e
    cases hi
    split at h
    · cases h
    · rename_i n hn
      have := natI_eq hn; subst this
      split at h
      · rename_i cs ex; cases ex
        obtain ⟨l, rfl, hl⟩ := hx
        split at h
        · rename_i len e hu
          split at h
          · rename_i sz hsz hlt
            rw [bltN, decide_eq_true_eq] at hlt
            obtain ⟨c, hc, hr⟩ := run_part hl h
            refine ⟨c, hc, fun w => ?_⟩
            simp only [Instr.index, asIntOf, Sem.run_bind, Sem.run_pure, Result.andThen_ok, run_underlying' hu]
            rw [if_pos ⟨by omega, by omega⟩]
            simp [run_size hsz, hr]
          · cases h
        · cases h
      · rename_i s ex; cases ex
        cases hx
        split at h
        · rename_i hu
          split at h
          · rename_i b hb; cases h
            refine ⟨_, rfl, fun w => ?_⟩
            have hs : s[n]? = some b := by
              have hlt : n < s.data.toList.length := by
                rcases Nat.lt_or_ge n s.data.toList.length with hh | hh
                · exact hh
                · rw [List.getElem?_eq_none hh] at hb; cases hb
              rw [List.getElem?_eq_getElem hlt] at hb
              have hlt' : n < s.size := by simpa using hlt
              rw [getElem?_pos s n hlt']
              simp only [Option.some.injEq] at hb ⊢
              show s.data[n] = b
              simpa using hb
            simp only [Instr.index, asIntOf, Sem.run_bind, Sem.run_pure, Result.andThen_ok, run_underlying' hu]
            rw [if_pos (by omega)]
            simp [hs]
          · cases h
        · cases h
      · cases h
  · cases h

theorem missed_spec {ty : TypeId} {ok : Bool} {v : V} (h : missed C ty ok = some v) : ok = true ∧ ∃ i zc z, C.P.info? ty = some i ∧ i.zero = some zc ∧ (∀ μ, VRel μ z zc) ∧ v = .tuple [z, .bool false] := by
  unfold missed at h; split at h
  · rename_i z hz; cases h
    obtain ⟨i, zc, hi, hzc, hzr⟩ := zeroV_spec hz
    exact ⟨rfl, i, zc, z, hi, hzc, hzr, rfl⟩
  · cases h

theorem okPair_rel {ok : Bool} {v : V} {c : Value} (h : VRel μ v c) (b : Bool) : VRel μ (okPair ok v b) (if ok then .tuple #[c, .bool b] else c) := by
  cases ok
  · exact h
  · exact ⟨[c, .bool b], rfl, VRels.cons h (VRels.cons rfl rfl)⟩

theorem opAssert_rel {xt asserted : TypeId} {ok : Bool} {x : V} {c : Value} {v : V} (hx : VRel μ x c) (h : opAssert C asserted ok (some x) = some v) : ValS C μ (Instr.typeAssert c xt asserted ok) v := by
  unfold opAssert at h
  split at h
  · rename_i e; cases e; cases hx
    split at h
    · rename_i d hu
      obtain ⟨rfl, i, zc, z, hi, hzc, hzr, rfl⟩ := missed_spec h
      refine ⟨_, ⟨[zc, .bool false], rfl, VRels.cons (hzr μ) (VRels.cons rfl rfl)⟩, fun w => ?_⟩
      cases d <;> simp [Instr.typeAssert, run_underlying' hu, run_zero hi hzc]
    · cases h
  · rename_i u y e; cases e
    obtain ⟨c', rfl, hc⟩ := hx
    split at h
    · rename_i want hu
      split at h
      · rename_i i hi
        split at h
        · rename_i hm; cases h
          refine ⟨_, okPair_rel (ok := ok) (show VRel μ (.iface u y) (.iface u c') from ⟨c', rfl, hc⟩) true, fun w => ?_⟩
          have hi' : C.P.info? u = some i := hi
          simp [Instr.typeAssert, run_underlying' hu, run_info hi', hm]
        · rename_i m hm
          obtain ⟨rfl, i', zc, z, hi', hzc, hzr, rfl⟩ := missed_spec h
          refine ⟨_, ⟨[zc, .bool false], rfl, VRels.cons (hzr μ) (VRels.cons rfl rfl)⟩, fun w => ?_⟩
          have hi2 : C.P.info? u = some i := hi
          simp [Instr.typeAssert, run_underlying' hu, run_info hi2, hm, run_zero hi' hzc]
      · cases h
    · rename_i d hd hu
      split at h
      · rename_i hb; rw [beqN, decide_eq_true_eq] at hb; subst hb; cases h
        refine ⟨_, okPair_rel (ok := ok) hc true, fun w => ?_⟩
        cases d <;> first | (rename_i ms; exact (hd ms rfl).elim) | simp [Instr.typeAssert, run_underlying' hu]
      · rename_i hb; rw [beqN, decide_eq_false_iff_not] at hb
        obtain ⟨rfl, i', zc, z, hi', hzc, hzr, rfl⟩ := missed_spec h
        refine ⟨_, ⟨[zc, .bool false], rfl, VRels.cons (hzr μ) (VRels.cons rfl rfl)⟩, fun w => ?_⟩
        cases d <;> first | (rename_i ms; exact (hd ms rfl).elim) | simp [Instr.typeAssert, run_underlying' hu, hb, run_zero hi' hzc]
    · cases h
  · cases h

theorem opExtract_rel {i : Nat} {x : V} {c : Value} {v : V} (hx : VRel μ x c) (h : opExtract i (some x) = some v) : ValS C μ (Instr.extract c i) v := by
  unfold opExtract at h
  split at h
  · rename_i vs e; cases e
    obtain ⟨l, rfl, hl⟩ := hx
    obtain ⟨c, hc, hv⟩ := hl.get i h
    exact ⟨c, hv, fun w => by simp [Instr.extract, hc]⟩
  · cases h

theorem opFunc_rel {fn : Fn} {first capt : Array Operand} {v : V} (hr : OR C μ t ρ) (h : opFunc fn (opds C t first.toList) (opds C t capt.toList) = some v) :
    ValS C μ (Instr.makeFunc fn (first.map ρ) (capt.map ρ)) v := by
  unfold opFunc at h
  split at h
  · rename_i a c ha hc
    have h1 := opds_rel hr ha
    have h2 := opds_rel hr hc
    split at h
    · cases h
    · cases h
      refine ⟨.func fn (first.map ρ) (capt.map ρ), ⟨first.toList.map ρ, capt.toList.map ρ, ?_, h1, h2⟩, fun w => by simp [Instr.makeFunc]⟩
      congr 1 <;> (apply Array.ext'; simp)
  · cases h

theorem of_some {f : Option V → Option V} (hn : f none = none) {x : Option V} {v : V} (h : f x = some v) : ∃ y, x = some y ∧ f (some y) = some v := by
  cases x with
  | none => rw [hn] at h; cases h
  | some y => exact ⟨y, rfl, h⟩

/-- every operation that makes a value of its operands alone -/
theorem pu_rel {o : Oper} {f : Tr V → Option V} (hk : compK C o.op = .pu f) (hr : OR C μ t ρ) {v : V} (h : f t = some v) : ∃ c, VRel μ v c ∧ Pure C ρ o c := by
  cases ho : o.op with
  | move x => rw [ho] at hk; cases hk; exact ⟨_, hr _ _ h, fun w => by simp [execOp, ho]⟩
  | pick c a b =>
    rw [ho] at hk; cases hk
    simp only [opPick] at h
    split at h
    · rename_i hc
      have e : ρ c = .bool true := hr _ _ hc
      exact ⟨_, hr _ _ h, fun w => by simp [execOp, ho, e, asBool]⟩
    · rename_i hc
      have e : ρ c = .bool false := hr _ _ hc
      exact ⟨_, hr _ _ h, fun w => by simp [execOp, ho, e, asBool]⟩
    · cases h
  | build ty parts => rw [ho] at hk; cases hk; exact pure_of (s := Instr.build ty (parts.map fun (i, x) => (i, ρ x))) (by simp [execOp, ho]) (opBuild_rel hr h)
  | nilCheck x => rw [ho] at hk; cases hk; exact opNilCheck_rel ho hr h
  | binOp op ty x y yt => rw [ho] at hk; cases hk; exact pure_of (s := do eqGuard op ty x y (ρ x) (ρ y); binOp op ty (ρ x) (ρ y)) (by simp [execOp, ho]) (opBin_rel hr h)
  | unOp op ty x =>
    rw [ho] at hk; cases hk
    obtain ⟨y, hy, h⟩ := of_some (f := opUn op) rfl h
    exact pure_of (s := Op.unary op (ρ x)) (by simp [execOp, ho]) (opUn_rel (hr _ _ hy) h)
  | makeInterface ty x =>
    rw [ho] at hk; cases hk
    obtain ⟨y, hy, h⟩ := of_some (f := opIface C ty) rfl h
    exact pure_of (s := Instr.makeInterface ty (ρ x)) (by simp [execOp, ho]) (opIface_rel (hr _ _ hy) h)
  | makeFunc fn first capt => rw [ho] at hk; cases hk; exact pure_of (s := Instr.makeFunc fn (first.map ρ) (capt.map ρ)) (by simp [execOp, ho]) (opFunc_rel hr h)
  | fieldAddr st x i =>
    rw [ho] at hk; cases hk
    obtain ⟨y, hy, h⟩ := of_some (f := opFieldAddr C st i) rfl h
    exact pure_of (s := Instr.fieldAt st (ρ x) i) (by simp [execOp, ho]) (opFieldAddr_rel (hr _ _ hy) h)
  | field ty x i =>
    rw [ho] at hk; cases hk
    obtain ⟨y, hy, h⟩ := of_some (f := opField C ty i) rfl h
    exact pure_of (s := Instr.field ty (ρ x) i) (by simp [execOp, ho]) (opField_rel (hr _ _ hy) h)
  | indexAddr ty x ix =>
    rw [ho] at hk; cases hk
    simp only at h
    cases hx : opd C t x with
    | none => rw [hx] at h; unfold opIndexAddr at h; split at h <;> first | cases h | (split at h <;> first | cases h | (split at h <;> first | cases h | (rename_i e; cases e)))
    | some a =>
      cases hi : opd C t ix with
      | none => rw [hi] at h; simp [opIndexAddr] at h
      | some b =>
        rw [hx, hi] at h
        exact pure_of (s := Instr.indexAt ty (ρ x) (ρ ix)) (by simp [execOp, ho]) (opIndexAddr_rel (hr _ _ hx) (hr _ _ hi) h)
  | index ty x ix =>
    rw [ho] at hk; cases hk
    simp only at h
    cases hx : opd C t x with
    | none => rw [hx] at h; unfold opIndex at h; split at h <;> first | cases h | (split at h <;> first | cases h | (split at h <;> first | cases h | (rename_i e; cases e)))
    | some a =>
      cases hi : opd C t ix with
      | none => rw [hi] at h; simp [opIndex] at h
      | some b =>
        rw [hx, hi] at h
        exact pure_of (s := Instr.index ty (ρ x) (ρ ix)) (by simp [execOp, ho]) (opIndex_rel (hr _ _ hx) (hr _ _ hi) h)
  | typeAssert x xt asserted ok =>
    rw [ho] at hk; cases hk
    obtain ⟨y, hy, h⟩ := of_some (f := opAssert C asserted ok) rfl h
    exact pure_of (s := Instr.typeAssert (ρ x) xt asserted ok) (by simp [execOp, ho]) (opAssert_rel (hr _ _ hy) h)
  | extract x i =>
    rw [ho] at hk; cases hk
    obtain ⟨y, hy, h⟩ := of_some (f := opExtract i) rfl h
    exact pure_of (s := Instr.extract (ρ x) i) (by simp [execOp, ho]) (opExtract_rel (hr _ _ hy) h)
  | convert src dst x =>
    rw [ho] at hk; simp only [compK, compConv] at hk
    repeat' split at hk
    all_goals cases hk
  | call c =>
    rw [ho] at hk
    obtain ⟨cal, args, ats⟩ := c
    cases cal with
    | builtin b => simp only [compK, compB] at hk; split at hk <;> cases hk
    | _ => cases hk
  | select cs b =>
    rw [ho] at hk; simp only [compK] at hk
    split at hk <;> first | (exfalso; rename_i e; cases e; done) | cases hk
  | _ => rw [ho] at hk; cases hk
end
end Go.AE
