/-
  A part of the abstract evaluator's soundness: its operations agree with the model's. No conditions beyond the theorems' own.
-/
import Derived.Test.YtkmpjokcpboloaaGreatDoorAeQ
set_option linter.unusedSimpArgs false
set_option linter.unusedVariables false
namespace Go.AE

section
variable {G : Gp} {μ : Inj} {h : H} {w : World} {t : Tr V} {ρ : Operand → Value}

/-! iterators -/
theorem newIt (s : Sim G μ h w) (o : O) (x : Obj) (ho : ∀ (l : Loc) (w' : World), l.base = 0 → w'.heap[l.blk]? = some x → ORel (μ.set h.nx l) l o w') {sm : Sem Value}
    (hs : sm.run G.C.P w = .ok (.pointer (some ⟨w.heap.size, 0, none⟩)) { w with heap := w.heap.push x }) : GivesV G h.nx μ w sm (.ptr h.nx 0) (h.add o) := by
  let l : Loc := ⟨w.heap.size, 0, 0, 0⟩
  obtain ⟨hle, hsim⟩ := s.new o x l rfl (ho l _ rfl (push_get _ _))
  exact ⟨_, _, _, Inj.ext.set l s.fresh (Nat.le_refl _), by rw [H.nx_add, Pos.toNat_succ]; omega, hsim, ⟨l, Inj.set_self _ _ _, by simp [l]⟩, hs⟩

theorem opRange_rel (s : Sim G μ h w) {ty : TypeId} {x : Operand} (hr : OR G.C μ t ρ) : (opRange G.C h ty (opd G.C t x)).any (GivesV G h.nx μ w (Instr.range ty (ρ x))) := by
  unfold opRange
  split
  · rename_i st hu hx
    have e : ρ x = .string st := hr _ _ hx
    rw [newR_eq]
    exact newIt s (.siter st 0) (.stringIter st 0) (fun l w' h0 hw => ⟨hw, h0⟩) (by simp [Instr.range, run_underlying' hu, e, newObj, Sem.run])
  · rename_i k e hu hx
    have e : ρ x = .map none := hr _ _ hx
    rw [newR_eq]
    exact newIt s (.miter none 0 [] 0) (.mapIter none 0 #[] 0) (fun l w' h0 hw => ⟨none, hw, rfl, h0⟩) (by simp [Instr.range, run_underlying' hu, e, newObj, Sem.run])
  · rename_i k e m hu hx
    obtain ⟨lm, hlm, em⟩ := hr _ _ hx
    split
    · rename_i es clock hg
      have ho := s.obj m lm hlm
      rw [hg] at ho
      obtain ⟨cs, hb, he⟩ := ho
      rw [newR_eq]
      exact newIt s (.miter (some m) clock [] clock) (.mapIter (some lm.blk) clock #[] clock) (fun l w' h0 hw => ⟨some lm.blk, hw, ⟨lm, Inj.le_set _ s.fresh _ _ hlm, rfl⟩, h0⟩)
        (by simp [Instr.range, run_underlying' hu, em, run_getObj hb (by simp), newObj, Sem.run])
    · trivial
  · trivial

theorem GivesV.pure {nx : Pos} (s : Sim G μ h w) {sm : Sem Value} {v : V} {c : Value} (hn : nx.toNat ≤ h.nx.toNat) (hv : VRel μ v c) (hs : sm.run G.C.P w = .ok c w) : GivesV G nx μ w sm v h :=
  ⟨μ, w, c, Inj.ext.refl _ _, hn, s, hv, hs⟩

/-- the entries that may come next, as lists -/
theorem ERels.all {p : V × V × Nat → Bool} {q : MapEntry → Bool} (hp : ∀ x e, ERel μ x e → p x = q e) : ∀ {es : List (V × V × Nat)} {cs : List MapEntry}, ERels μ es cs → es.all p = cs.all q
  | [], _, h => by cases h; rfl
  | x :: es, _, ⟨e, cs, eq, hx, hs⟩ => by subst eq; simp [hp x e hx, hs.all hp]
theorem ERels.filter {p : V × V × Nat → Bool} {q : MapEntry → Bool} (hp : ∀ x e, ERel μ x e → p x = q e) : ∀ {es : List (V × V × Nat)} {cs : List MapEntry}, ERels μ es cs → ERels μ (es.filter p) (cs.filter q)
  | [], _, h => by cases h; rfl
  | x :: es, _, ⟨e, cs, eq, hx, hs⟩ => by
    subst eq
    simp only [List.filter_cons, hp x e hx]
    split
    · exact ⟨e, _, rfl, hx, hs.filter hp⟩
    · exact hs.filter hp

theorem contains_arr (l : List Nat) (x : Nat) : (⟨l⟩ : Array Nat).contains x = l.contains x := by simp

theorem choose_map {P : Program} (n : Nat) (hn : 0 < n) (w : World) : ∃ i k, i < n ∧ (choose (.mapNext n)).run P w = .ok i { w with drawn := k } := by
  by_cases h1 : n ≤ 1
  · exact ⟨0, w.drawn, hn, by simp [choose, Sem.run, Question.forced, h1]⟩
  · exact ⟨w.tape w.drawn (.mapNext n) % n, w.drawn + 1, Nat.mod_lt _ hn, by simp [choose, Sem.run, Question.forced, h1, Question.cut]⟩

theorem stepMap_rel (s : Sim G μ h w) {r m : Pos} {l lm : Loc} (hl : μ r = some l) (h0 : l.base = 0) (hlm : μ m = some lm) {since clock last : Nat} {seen : List Nat} (hg : h.get r = .miter (some m) since seen last)
    {x : V × V × Nat} {e : MapEntry} (hx : ERel μ x e) {sm : Sem Value} {k : Nat}
    (hs : sm.run G.C.P w = ((do setObj l.blk (.mapIter (some lm.blk) since ((⟨seen⟩ : Array Nat).push e.born) clock); Pure.pure (.tuple #[.bool true, e.key, e.val]) : Sem Value)).run G.C.P { w with drawn := k }) :
    (stepMap h r m since seen clock (some x)).any (GivesV G h.nx μ w sm) := by
  obtain ⟨key, v, b⟩ := x
  obtain ⟨h1, h2, h3⟩ := hx
  simp only at h1 h2 h3
  have ho := s.obj r l hl
  rw [hg] at ho
  obtain ⟨m', hb, hm, hz⟩ := ho
  have s' := s.drawn k
  have hb' : ({ w with drawn := k } : World).heap[l.blk]? = some (.mapIter m' since ⟨seen⟩ last) := hb
  refine ⟨μ, _, .tuple #[.bool true, e.key, e.val], Inj.ext.refl _ _, by rw [H.nx_put]; exact Nat.le_refl _, s'.setObj hl (by rw [hg]; rfl) (by rw [hg]; exact id) (.miter (some m) since (seen ++ [b]) clock) (.mapIter (some lm.blk) since ⟨seen ++ [e.born]⟩ clock)
    (fun w' hw' => ⟨some lm.blk, by rw [h3]; exact hw', ⟨lm, hlm, rfl⟩, h0⟩), ⟨_, rfl, VRels.cons rfl (VRels.cons h1 (VRels.cons h2 rfl))⟩, ?_⟩
  rw [hs]
  simp only [Sem.run_bind, List.push_toArray, run_setObj hb' (by simp), Result.andThen_ok, Sem.run_pure]

theorem nextMap_rel (s : Sim G μ h w) {r m : Pos} {l : Loc} (hl : μ r = some l) {since last : Nat} {seen : List Nat} (hg : h.get r = .miter (some m) since seen last) {oty : TypeId} :
    (nextMap h r m since seen last).any (GivesV G h.nx μ w (Instr.next (.pointer (some ⟨l.blk, l.base + 0, none⟩)) false oty)) := by
  have ho := s.obj r l hl
  rw [hg] at ho
  obtain ⟨m', hb, ⟨lm, hlm, rfl⟩, h0⟩ := ho
  unfold nextMap
  split
  · rename_i es clock hgm
    have hom := s.obj m lm hlm
    rw [hgm] at hom
    obtain ⟨cs, hbm, he⟩ := hom
    have hleft : ERels μ (es.filter fun e => !seen.contains e.2.2) (cs.filter fun e => !seen.contains e.born) := he.filter fun x e hx => by rw [hx.2.2]
    have hall : es.all (fun e => Nat.ble last e.2.2) = cs.all (fun e => decide (e.born ≥ last)) := he.all fun x e hx => by rw [bleN, hx.2.2]
    split
    · trivial
    · rename_i hno
      have hno' : (!(⟨seen⟩ : Array Nat).isEmpty && !(⟨cs⟩ : Array MapEntry).isEmpty && (⟨cs⟩ : Array MapEntry).all (fun e => decide (e.born ≥ last))) = false := by
        have e1 : (⟨seen⟩ : Array Nat).isEmpty = seen.isEmpty := by simp
        have e2 : (⟨cs⟩ : Array MapEntry).isEmpty = es.isEmpty := by
          have hlen := he.length
          cases es <;> cases cs <;> simp_all
        have e3 : (⟨cs⟩ : Array MapEntry).all (fun e => decide (e.born ≥ last)) = cs.all (fun e => decide (e.born ≥ last)) := by simp
        rw [e1, e2, e3, ← hall]; exact hno
      -- what is left, as an array
      let left := cs.filter fun e => !seen.contains e.born
      have hlft : ((⟨cs⟩ : Array MapEntry).filter fun e => !(⟨seen⟩ : Array Nat).contains e.born) = ⟨left⟩ := by
        apply Array.ext'; simp [left]
      have hrun0 : ∀ (i : Nat) (k : Nat) (q : Array (Option MapEntry)), ((if (left.filter fun e => decide (e.born < since)).isEmpty then #[none] else #[]) ++ (⟨(left.filter fun e => decide (e.born < since)) ++ (left.filter fun e => decide (e.born ≥ since))⟩ : Array MapEntry).map some) = q →
          (choose (.mapNext q.size)).run G.C.P w = .ok i { w with drawn := k } →
          (Instr.next (.pointer (some ⟨l.blk, l.base + 0, none⟩)) false oty).run G.C.P w =
            ((match q[i]? with
              | some (some e) => do
                setObj l.blk (.mapIter (some lm.blk) since ((⟨seen⟩ : Array Nat).push e.born) clock)
                Pure.pure (.tuple #[.bool true, e.key, e.val])
              | some none => Pure.pure (.tuple #[.bool false])
              | none => stuck "Next: no such candidate") : Sem Value).run G.C.P { w with drawn := k } := by
        intro i k q hq hc
        subst hq
        unfold Instr.next
        simp only [h0, Nat.add_zero, Sem.run_bind, run_getObj hb (by simp), Result.andThen_ok, run_getObj hbm (by simp), hno', Bool.false_eq_true, if_false, hlft, List.filter_toArray, List.append_toArray]
        have e1 : (⟨left.filter fun e => decide (e.born < since)⟩ : Array MapEntry).isEmpty = (left.filter fun e => decide (e.born < since)).isEmpty := by simp
        simp only [e1]
        rw [hc]
        simp only [Result.andThen_ok]
        rfl
      have hsome : ∀ (x : V × V × Nat) (e : MapEntry), ERel μ x e → ∀ (i : Nat) (k : Nat) (q : Array (Option MapEntry)), ((if (left.filter fun e => decide (e.born < since)).isEmpty then #[none] else #[]) ++ (⟨(left.filter fun e => decide (e.born < since)) ++ (left.filter fun e => decide (e.born ≥ since))⟩ : Array MapEntry).map some) = q →
          (choose (.mapNext q.size)).run G.C.P w = .ok i { w with drawn := k } → q[i]? = some (some e) →
          (stepMap h r m since seen clock (some x)).any (GivesV G h.nx μ w (Instr.next (.pointer (some ⟨l.blk, l.base + 0, none⟩)) false oty)) := by
        intro x e hx i k q hq hc hqi
        refine stepMap_rel s hl h0 hlm hg hx (k := k) ?_
        rw [hrun0 i k q hq hc, hqi]
      -- all that is left was there at the start
      have allOld : (left.all fun e => decide (e.born < since)) = true → (left.filter fun e => decide (e.born < since)) = left ∧ (left.filter fun e => decide (e.born ≥ since)) = [] := by
        intro ha
        rw [List.all_eq_true] at ha
        refine ⟨List.filter_eq_self.2 ha, List.filter_eq_nil_iff.2 fun e he' => ?_⟩
        have := ha e he'
        simp only [decide_eq_true_eq] at this ⊢
        omega
      have hleft' : ERels μ (es.filter fun e => !seen.contains e.2.2) left := hleft
      split
      · rename_i hnil
        rw [hnil] at hleft'
        have hl0 : left = [] := hleft'
        obtain ⟨i, k, hi, hc⟩ := choose_map (P := G.C.P) 1 (by omega) w
        have hi0 : i = 0 := by omega
        subst hi0
        have hr := hrun0 0 k #[none] (by simp [hl0]) hc
        refine ⟨μ, _, .tuple #[.bool false], Inj.ext.refl _ _, Nat.le_refl _, s.drawn k, ⟨_, rfl, VRels.cons rfl rfl⟩, ?_⟩
        rw [hr]; simp
      · rename_i x hone
        rw [hone] at hleft'
        obtain ⟨e, tl, hl1, hx, htl⟩ := hleft'
        have htl' : tl = [] := htl
        subst htl'
        split
        · rename_i hlt
          rw [bltN, decide_eq_true_eq] at hlt
          obtain ⟨ho1, ho2⟩ := allOld (by rw [hl1]; simp [← hx.2.2, hlt])
          obtain ⟨i, k, hi, hc⟩ := choose_map (P := G.C.P) 1 (by omega) w
          have hi0 : i = 0 := by omega
          subst hi0
          exact hsome x e hx 0 k #[some e] (by rw [ho1, ho2, hl1]; simp) hc rfl
        · trivial
      · rename_i xs hne hne1
        split
        · rename_i ha
          obtain ⟨ho1, ho2⟩ := allOld (by rw [← hleft'.all (p := fun e => Nat.blt e.2.2 since) fun x e hx => by rw [bltN, hx.2.2]]; exact ha)
          have hlen := hleft'.length
          have hpos : 0 < left.length := by
            rw [← hlen]
            cases hh : (es.filter fun e => !seen.contains e.2.2) with
            | nil => exact (hne hh).elim
            | cons => simp
          obtain ⟨i, k, hi, hc⟩ := choose_map (P := G.C.P) left.length hpos w
          refine ⟨i, by rw [hlen]; exact hi, ?_⟩
          have hlt : i < (es.filter fun e => !seen.contains e.2.2).length := by rw [hlen]; exact hi
          obtain ⟨e, hce, hx⟩ := hleft'.get i (List.getElem?_eq_getElem hlt)
          show R.any _ (stepMap h r m since seen clock (List.filter (fun e => !seen.contains e.2.2) es)[i]?)
          rw [List.getElem?_eq_getElem hlt]
          have hemp : left.isEmpty = false := by cases hh : left <;> simp_all
          exact hsome _ e hx i k ⟨left.map some⟩ (by rw [ho1, ho2]; simp [hemp]) (by simpa using hc) (by simpa using hce)
        · trivial
  · trivial

theorem opNext_rel (s : Sim G μ h w) {x : Operand} {isStr : Bool} {oty : TypeId} (hr : OR G.C μ t ρ) : (opNext h (opd G.C t x) isStr).any (GivesV G h.nx μ w (Instr.next (ρ x) isStr oty)) := by
  unfold opNext
  split
  · rename_i r hx
    obtain ⟨l, hl, ex⟩ := hr _ _ hx
    rw [ex]
    split
    · rename_i st pos hg
      have ho := s.obj r l hl
      rw [hg] at ho
      obtain ⟨hb, h0⟩ := ho
      split
      · rename_i hlt
        rw [bltN, decide_eq_true_eq] at hlt
        split
        rename_i c wd hdec
        refine ⟨μ, _, .tuple #[.bool true, goInt pos, .int .i32 c], Inj.ext.refl _ _, by rw [H.nx_put]; exact Nat.le_refl _, s.setObj hl (by rw [hg]; rfl) (by rw [hg]; exact id) (.siter st (pos + wd)) (.stringIter st (pos + wd))
          (fun w' hw' => ⟨hw', h0⟩), ⟨_, rfl, VRels.cons rfl (VRels.cons rfl (VRels.cons rfl rfl))⟩, ?_⟩
        simp only [Instr.next, h0, Nat.add_zero, Sem.run_bind, run_getObj hb (by simp), Result.andThen_ok, hlt, if_true, hdec, run_setObj hb (o := .stringIter st pos) (by simp), Sem.run_pure]
      · rename_i hlt
        rw [bltN, decide_eq_false_iff_not] at hlt
        refine GivesV.pure s (Nat.le_refl _) (c := .tuple #[.bool false]) ⟨_, rfl, VRels.cons rfl rfl⟩ ?_
        simp [Instr.next, h0, run_getObj hb (by simp), hlt]
    · rename_i a b c hg
      have ho := s.obj r l hl
      rw [hg] at ho
      obtain ⟨m', hb, hm, h0⟩ := ho
      have hm' : m' = none := hm
      subst hm'
      refine GivesV.pure s (Nat.le_refl _) (c := .tuple #[.bool false]) ⟨_, rfl, VRels.cons rfl rfl⟩ ?_
      simp [Instr.next, h0, run_getObj hb (by simp)]
    · rename_i m since seen last hg
      exact nextMap_rel s hl hg
    · trivial
  · trivial
end
end Go.AE
