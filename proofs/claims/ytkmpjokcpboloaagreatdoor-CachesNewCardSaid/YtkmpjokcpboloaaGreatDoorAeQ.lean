/-
  A part of the abstract evaluator's soundness: its operations agree with the model's. No conditions beyond the theorems' own.
-/
import Derived.Test.YtkmpjokcpboloaaGreatDoorAeP
set_option linter.unusedSimpArgs false
set_option linter.unusedVariables false
namespace Go.AE

section
variable {G : Gp} {μ : Inj} {h : H} {w : World} {t : Tr V} {ρ : Operand → Value}

theorem R.any_ofH {Q : V → H → Prop} {v : V} {x : Option H} (hx : ∀ h', x = some h' → Q v h') : (R.ofH v x).any Q := by
  cases x with
  | none => trivial
  | some h' => exact hx h' rfl
theorem R.any_ofV {Q : V → H → Prop} {h : H} {x : Option V} (hx : ∀ v, x = some v → Q v h) : (R.ofV h x).any Q := by
  cases x with
  | none => trivial
  | some v => exact hx v rfl

theorem ptr_add (l : Loc) (off : Nat) : (⟨l.blk, l.base + off, none⟩ : Addr) = ⟨l.blk, l.base + off, none⟩ := rfl

theorem opStore_rel (s : Sim G μ h w) {ty : TypeId} {a x : Operand} (hr : OR G.C μ t ρ) : (opStore G.C h ty (opd G.C t a) (opd G.C t x)).any (fun v h' => v = AE.undef ∧ GivesU G h.nx μ w (Instr.storeAt ty (ρ a) (ρ x)) h') := by
  unfold opStore
  split
  · rename_i b off ha
    obtain ⟨l, hl, ea⟩ := hr _ _ ha
    split
    · rename_i v hx
      have hv := hr _ _ hx
      split
      · rename_i n hsz
        split
        · rename_i hn
          rw [beqN, decide_eq_true_eq] at hn
          have hcl := V.cells_rel hv
          have hsize : (ρ x).cells.size = n := by rw [hn, hcl.length]; simp
          split
          · trivial
          · rename_i c cs hcs
            refine R.any_ofH fun h' hs => ?_
            rw [← hcs] at hs
            obtain ⟨hnx, w', hsim, hrun⟩ := storeL_rel s hl hcl hs
            refine ⟨rfl, μ, w', Inj.ext.refl _ _, by rw [hnx]; exact Nat.le_refl _, hsim, ?_⟩
            simp [Instr.storeAt, ea, Instr.sureAddr, storeVar, run_size hsz, hsize, hrun]
        · trivial
      · trivial
    · trivial
  · trivial

/-! maps -/
theorem ERels.get : ∀ {es : List (V × V × Nat)} {cs : List MapEntry} (i : Nat) {x : V × V × Nat}, ERels μ es cs → es[i]? = some x → ∃ e, cs[i]? = some e ∧ ERel μ x e
  | [], _, _, _, _, h => by simp at h
  | y :: es, _, 0, x, ⟨e, cs, eq, hx, hs⟩, h => by subst eq; simp only [List.getElem?_cons_zero, Option.some.injEq] at h; subst h; exact ⟨e, rfl, hx⟩
  | y :: es, _, i + 1, x, ⟨e, cs, eq, hx, hs⟩, h => by
    subst eq; obtain ⟨e', h1, h2⟩ := ERels.get i hs (by simpa using h); exact ⟨e', by simpa using h1, h2⟩
theorem ERels.set : ∀ {es : List (V × V × Nat)} {cs : List MapEntry} (i : Nat) {x : V × V × Nat} {e' : MapEntry}, ERels μ es cs → ERel μ x e' → ERels μ (es.set i x) (cs.set i e')
  | [], _, _, _, _, h, _ => by cases h; rfl
  | y :: es, _, 0, x, e', ⟨e, cs, eq, hx, hs⟩, h => by subst eq; exact ⟨e', cs, rfl, h, hs⟩
  | y :: es, _, i + 1, x, e', ⟨e, cs, eq, hx, hs⟩, h => by subst eq; exact ⟨e, _, rfl, hx, ERels.set i hs h⟩
theorem ERels.append : ∀ {es es' : List (V × V × Nat)} {cs cs' : List MapEntry}, ERels μ es cs → ERels μ es' cs' → ERels μ (es ++ es') (cs ++ cs')
  | [], _, _, _, h, h' => by cases h; exact h'
  | y :: es, _, _, _, ⟨e, cs, eq, hx, hs⟩, h' => by subst eq; exact ⟨e, _, rfl, hx, hs.append h'⟩
theorem ERels.one {x : V × V × Nat} {e : MapEntry} (h : ERel μ x e) : ERels μ [x] [e] := ⟨e, [], rfl, h, rfl⟩
theorem ERels.eraseIdx : ∀ {es : List (V × V × Nat)} {cs : List MapEntry} (i : Nat), ERels μ es cs → ERels μ (es.eraseIdx i) (cs.eraseIdx i)
  | [], _, _, h => by cases h; rfl
  | y :: es, _, 0, ⟨e, cs, eq, hx, hs⟩ => by subst eq; exact hs
  | y :: es, _, i + 1, ⟨e, cs, eq, hx, hs⟩ => by subst eq; exact ⟨e, _, rfl, hx, ERels.eraseIdx i hs⟩

theorem findK_spec (ks : List Kd) (k : V) : ∀ (es : List (V × V × Nat)) (i0 i : Nat) (v : V) (b : Nat), findK ks k es i0 = some (some (i, v, b)) → i0 ≤ i ∧ ∃ x, es[i - i0]? = some (x, v, b) ∧ keyEq ks k x = some true
  | [], i0, i, v, b, h => by simp [findK] at h
  | (x, v', b') :: es, i0, i, v, b, h => by
    simp only [findK] at h
    split at h
    · rename_i hk; cases h; exact ⟨Nat.le_refl _, x, by simp, hk⟩
    · obtain ⟨h1, x', h2, h3⟩ := findK_spec ks k es (i0 + 1) i v b h
      refine ⟨by omega, x', ?_, h3⟩
      rw [show i - i0 = (i - (i0 + 1)) + 1 by omega]; simpa using h2
    · cases h

theorem eqCell_same {k : Kd} {x y : V} {a b : Value} (hx : VRel μ x a) (hy : VRel μ y b) (h : eqCell k x y = some true) : a = b ∧ ∀ n, Instr.sameBits n b a = true := by
  cases k <;> cases x <;> cases y <;> simp only [eqCell] at h <;> (try cases h)
  · cases hx; cases hy
    rw [Option.some.injEq, eqB_eq] at h
    have := eq_of_beq h; subst this
    exact ⟨rfl, fun n => by cases n <;> simp [Instr.sameBits]⟩
  · cases hx; cases hy
    split at h
    · rename_i hk
      rw [eqK_eq, decide_eq_true_eq] at hk
      rw [Option.some.injEq, eqI_eq, decide_eq_true_eq] at h
      subst hk; subst h
      exact ⟨rfl, fun n => by cases n <;> simp [Instr.sameBits]⟩
    · cases h
  · cases hx; cases hy
    rw [Option.some.injEq, eqBytes_eq, decide_eq_true_eq] at h
    rename_i s s'
    have : s = s' := by
      cases s; cases s'; simp only [ByteArray.mk.injEq]; exact Array.ext' h
    subst this
    exact ⟨rfl, fun n => by cases n <;> simp only [Instr.sameBits] <;> exact beq_self_eq_true s.data⟩

theorem eqCells_same : ∀ {ks : List Kd} {xs ys : List V} {as bs : List Value}, VRels μ xs as → VRels μ ys bs → eqCells ks xs ys = some true → as = bs ∧ ∀ n, (bs.zip as).all (fun x => Instr.sameBits n x.1 x.2) = true
  | [], [], [], _, _, hx, hy, _ => by cases hx; cases hy; exact ⟨rfl, fun n => rfl⟩
  | k :: ks, x :: xs, y :: ys, _, _, ⟨a, as, e1, h1, h2⟩, ⟨b, bs, e2, h3, h4⟩, h => by
    subst e1; subst e2
    simp only [eqCells] at h
    split at h
    · rename_i hc
      obtain ⟨e, hs⟩ := eqCell_same h1 h3 hc
      obtain ⟨e', hs'⟩ := eqCells_same h2 h4 h
      subst e; subst e'
      exact ⟨rfl, fun n => by simp only [List.zip_cons_cons, List.all_cons, hs n, Bool.true_and]; exact hs' n⟩
    · cases h
    · cases h
  | [], [], _ :: _, _, _, _, _, h => by simp [eqCells] at h
  | [], _ :: _, _, _, _, _, _, h => by simp [eqCells] at h
  | _ :: _, [], _, _, _, _, _, h => by simp [eqCells] at h
  | _ :: _, _ :: _, [], _, _, _, _, h => by simp [eqCells] at h

theorem keyEq_same {ks : List Kd} {x y : V} {a b : Value} (hx : VRel μ x a) (hy : VRel μ y b) (h : keyEq ks x y = some true) : Instr.sameBits 10000 b a = true := by
  unfold keyEq at h
  split at h
  · obtain ⟨as, rfl, h1⟩ := hx
    obtain ⟨bs, rfl, h2⟩ := hy
    obtain ⟨e, hs⟩ := eqCells_same h1 h2 h
    subst e
    show ((as.toArray.size == as.toArray.size) && _) = true
    simp only [beq_self_eq_true, Bool.true_and]
    exact hs 9999
  · split at h
    · exact (eqCell_same hx hy h).2 _
    · cases h

theorem keyThatStays_same {P : Program} {a b : Value} (h : Instr.sameBits 10000 b a = true) (w : World) : (Instr.keyThatStays b a).run P w = .ok a w := by
  simp [Instr.keyThatStays, h]

/-- a map that is looked into, found: what the model finds -/
theorem found_spec {C : Ctx} {mt : MT} {k : V} {c : Value} (hx : VRel μ k c) {es : List (V × V × Nat)} {cs : List MapEntry} (he : ERels μ es cs) {i b : Nat} {v : V} {q}
    (hf : findK mt.ks k es 0 = some (some (i, v, b))) (hq : Found μ cs 0 (some (i, v, b)) q) : ∃ e, q = some (i, e.val) ∧ cs[i]? = some e ∧ e.born = b ∧ VRel μ v e.val ∧ ∀ w (P : Program), (Instr.keyThatStays e.key c).run P w = .ok c w := by
  obtain ⟨d, e, rfl, hv, _, hc, rfl, hb⟩ := hq
  rw [Nat.sub_zero] at hc
  obtain ⟨_, x, hx', hk⟩ := findK_spec _ _ _ _ _ _ _ hf
  rw [Nat.sub_zero] at hx'
  obtain ⟨e', he', hrel⟩ := he.get i hx'
  rw [hc] at he'; cases he'
  exact ⟨e, rfl, hc, hb, hv, fun w P => keyThatStays_same (keyEq_same hx hrel.1 hk) w⟩

theorem modify_set (cs : List MapEntry) (i : Nat) (f : MapEntry → MapEntry) (e : MapEntry) (h : cs[i]? = some e) : (⟨cs⟩ : Array MapEntry).modify i f = ⟨cs.set i (f e)⟩ := by
  apply Array.ext'
  apply List.ext_getElem?
  intro j
  rw [Array.getElem?_toList, Array.getElem?_modify]
  by_cases hij : i = j
  · subst hij
    have hlt : i < cs.length := (List.getElem?_eq_some_iff.1 h).1
    simp [hlt, (List.getElem?_eq_some_iff.1 h).2]
  · simp [hij, List.getElem?_set_ne hij]

theorem opMapSet_rel (s : Sim G μ h w) {ty : TypeId} {m k x : Operand} (hr : OR G.C μ t ρ) :
    (opMapSet G.C h ty (opd G.C t m) (opd G.C t k) (opd G.C t x)).any (fun v h' => v = AE.undef ∧ GivesU G h.nx μ w (Instr.mapUpdate ty (ρ m) (ρ k) (ρ x)) h') := by
  unfold opMapSet
  split
  · rename_i mt r kv xv hmt hm hk hx
    obtain ⟨hu, hks⟩ := mapTy_spec hmt
    obtain ⟨l, hl, em⟩ := hr _ _ hm
    have hkr := hr _ _ hk
    have hxr := hr _ _ hx
    split
    · rename_i es clock hok hg
      have ho := s.obj r l hl
      rw [hg] at ho
      obtain ⟨cs, hb, he⟩ := ho
      have hlive : (h.get r).live = true := by rw [hg]; rfl
      have hnro : ¬ (h.get r).ro := by rw [hg]; exact id
      have hck := keyOk_check hks hkr hok false w
      split
      · rename_i i v b hf
        obtain ⟨q, hrun, hq⟩ := findKey_rel hks hkr hok he hf w
        obtain ⟨e, rfl, hc, hbb, _, hstay⟩ := found_spec (C := G.C) (mt := mt) hkr he hf hq
        refine ⟨rfl, μ, _, Inj.ext.refl _ _, by rw [H.nx_put]; exact Nat.le_refl _, s.setObj hl hlive hnro (.map (es.set i (kv, xv, b)) clock) (.map ⟨cs.set i { e with key := ρ k, val := ρ x }⟩ clock)
          (fun w' hw' => ⟨_, hw', he.set i ⟨hkr, hxr, hbb.symm⟩⟩), ?_⟩
        simp only [Instr.mapUpdate, Sem.run_bind, run_underlying hu, Result.andThen_ok, em, run_getObj hb (by simp), hck, hrun, List.getElem?_toArray, hc, Option.map_some, Option.getD_some, hstay]
        rw [modify_set _ _ _ e hc]
        exact run_setObj hb (by simp)
      · rename_i hf
        obtain ⟨q, hrun, hq⟩ := findKey_rel hks hkr hok he hf w
        cases hq
        refine ⟨rfl, μ, _, Inj.ext.refl _ _, by rw [H.nx_put]; exact Nat.le_refl _, s.setObj hl hlive hnro (.map (es ++ [(kv, xv, clock)]) (clock + 1)) (.map ⟨cs ++ [{ key := ρ k, val := ρ x, born := clock }]⟩ (clock + 1))
          (fun w' hw' => ⟨_, hw', he.append (ERels.one ⟨hkr, hxr, rfl⟩)⟩), ?_⟩
        simp only [Instr.mapUpdate, Sem.run_bind, run_underlying hu, Result.andThen_ok, em, run_getObj hb (by simp), hck, hrun, List.push_toArray]
        exact run_setObj hb (by simp)
      · trivial
    · trivial
  · trivial

theorem opMapEntry_rel (s : Sim G μ h w) {ty : TypeId} {m k : Operand} (hr : OR G.C μ t ρ) :
    (opMapEntry G.C h ty (opd G.C t m) (opd G.C t k)).any (GivesV G h.nx μ w (Instr.mapEntry ty (ρ m) (ρ k))) := by
  unfold opMapEntry
  split
  · rename_i mt r kv hmt hm hk
    obtain ⟨hu, hks⟩ := mapTy_spec hmt
    obtain ⟨l, hl, em⟩ := hr _ _ hm
    have hkr := hr _ _ hk
    split
    · rename_i es clock hok hg
      have ho := s.obj r l hl
      rw [hg] at ho
      obtain ⟨cs, hb, he⟩ := ho
      have hlive : (h.get r).live = true := by rw [hg]; rfl
      have hnro : ¬ (h.get r).ro := by rw [hg]; exact id
      have hck := keyOk_check hks hkr hok false w
      split
      · rename_i i v b hf
        obtain ⟨q, hrun, hq⟩ := findKey_rel hks hkr hok he hf w
        obtain ⟨e, rfl, hc, hbb, hv, hstay⟩ := found_spec (C := G.C) (mt := mt) hkr he hf hq
        refine ⟨μ, _, .tuple #[e.val, goInt e.born], Inj.ext.refl _ _, by rw [H.nx_put]; exact Nat.le_refl _, s.setObj hl hlive hnro (.map (es.set i (kv, v, b)) clock) (.map ⟨cs.set i { e with key := ρ k }⟩ clock)
          (fun w' hw' => ⟨_, hw', he.set i ⟨hkr, hv, hbb.symm⟩⟩), ⟨_, rfl, VRels.cons hv (VRels.cons (by rw [hbb]; rfl) rfl)⟩, ?_⟩
        simp only [Instr.mapEntry, Sem.run_bind, run_underlying hu, Result.andThen_ok, em, run_getObj hb (by simp), hck, hrun, List.getElem?_toArray, hc, Option.map_some, Option.getD_some, hstay]
        rw [modify_set _ _ _ e hc, run_setObj hb (by simp)]
        simp
      · rename_i hf
        split
        · rename_i z hz
          obtain ⟨i, zc, hi, hzc, hzr⟩ := zeroV_spec hz
          obtain ⟨q, hrun, hq⟩ := findKey_rel hks hkr hok he hf w
          cases hq
          refine ⟨μ, _, .tuple #[zc, goInt clock], Inj.ext.refl _ _, by rw [H.nx_put]; exact Nat.le_refl _, s.setObj hl hlive hnro (.map (es ++ [(kv, z, clock)]) (clock + 1)) (.map ⟨cs ++ [{ key := ρ k, val := zc, born := clock }]⟩ (clock + 1))
            (fun w' hw' => ⟨_, hw', he.append (ERels.one ⟨hkr, hzr μ, rfl⟩)⟩), ⟨_, rfl, VRels.cons (hzr μ) (VRels.cons rfl rfl)⟩, ?_⟩
          simp only [Instr.mapEntry, Sem.run_bind, run_underlying hu, Result.andThen_ok, em, run_getObj hb (by simp), hck, hrun, List.push_toArray, run_zero hi hzc]
          rw [run_setObj hb (by simp)]
          simp
        · trivial
      · trivial
    · trivial
  · trivial

theorem findBorn_rel (born : Int) : ∀ (es : List (V × V × Nat)) (cs : List MapEntry) (i0 i : Nat) (k : V) (b : Nat), ERels μ es cs → findBorn born es i0 = some (i, k, b) →
    i0 ≤ i ∧ cs.findIdx? (fun e => (e.born : Int) == born) = some (i - i0) ∧ ∃ e, cs[i - i0]? = some e ∧ VRel μ k e.key ∧ b = e.born
  | [], _, _, _, _, _, _, h => by simp [findBorn] at h
  | (k', v', n) :: es, _, i0, i, k, b, ⟨e, cs, eq, hx, hs⟩, h => by
    subst eq
    simp only [findBorn] at h
    have hn : n = e.born := hx.2.2
    split at h
    · rename_i hb; cases h
      rw [eqI_eq, decide_eq_true_eq] at hb
      refine ⟨Nat.le_refl _, ?_, e, by simp, hx.1, hn⟩
      subst hn; subst hb
      rw [List.findIdx?_cons]; simp
    · rename_i hb
      rw [eqI_eq, decide_eq_false_iff_not] at hb
      obtain ⟨h1, h2, e', h3, h4, h5⟩ := findBorn_rel born es cs (i0 + 1) i k b hs h
      refine ⟨by omega, ?_, e', ?_, h4, h5⟩
      · rw [List.findIdx?_cons]
        have : ((e.born : Int) == born) = false := by rw [beq_eq_false_iff_ne]; subst hn; exact hb
        rw [this, h2]
        simp only [Bool.false_eq_true, if_false, Option.map_some, Option.some.injEq]
        omega
      · rw [show i - i0 = (i - (i0 + 1)) + 1 by omega]; simpa using h3

theorem opEntryStore_rel (s : Sim G μ h w) {ty : TypeId} {m st x : Operand} (hr : OR G.C μ t ρ) :
    (opEntryStore h (opd G.C t m) (opd G.C t st) (opd G.C t x)).any (fun v h' => v = AE.undef ∧ GivesU G h.nx μ w (Instr.entryStore ty (ρ m) (ρ st) (ρ x)) h') := by
  unfold opEntryStore
  split
  · rename_i r kk born v hm hst hx
    obtain ⟨l, hl, em⟩ := hr _ _ hm
    have es' : ρ st = .int kk born := hr _ _ hst
    have hxr := hr _ _ hx
    split
    · rename_i es clock hg
      have ho := s.obj r l hl
      rw [hg] at ho
      obtain ⟨cs, hb, he⟩ := ho
      have hlive : (h.get r).live = true := by rw [hg]; rfl
      have hnro : ¬ (h.get r).ro := by rw [hg]; exact id
      split
      · rename_i i k b hf
        obtain ⟨_, h2, e, h3, h4, h5⟩ := findBorn_rel born es cs 0 i k b he hf
        rw [Nat.sub_zero] at h2 h3
        refine ⟨rfl, μ, _, Inj.ext.refl _ _, by rw [H.nx_put]; exact Nat.le_refl _, s.setObj hl hlive hnro (.map (es.set i (k, v, b)) clock) (.map ⟨cs.set i { e with val := ρ x }⟩ clock)
          (fun w' hw' => ⟨_, hw', he.set i ⟨h4, hxr, h5⟩⟩), ?_⟩
        have h2' : (⟨cs⟩ : Array MapEntry).findIdx? (fun e => (e.born : Int) == born) = some i := by simpa using h2
        simp only [Instr.entryStore, Sem.run_bind, em, run_getObj hb (by simp), Result.andThen_ok, es', asInt, asIntOf, Sem.run_pure, h2']
        rw [modify_set _ _ _ e h3]
        exact run_setObj hb (by simp)
      · trivial
    · trivial
  · trivial
end
end Go.AE
