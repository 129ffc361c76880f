/-
  A part of the abstract evaluator's soundness: its operations agree with the model's. No conditions beyond the theorems' own.
-/
import Derived.Test.YtkmpjokcpboloaaGreatDoorAeO
import Derived.Laws.CopyRow
set_option linter.unusedSimpArgs false
set_option linter.unusedVariables false
namespace Go.AE

section
variable {G : Gp} {μ : Inj} {h : H} {w : World} {t : Tr V} {ρ : Operand → Value}

theorem okCells_one : ∀ {vs : List V} {xs : List Value}, okCells vs = true → VRels μ vs xs → ∀ x ∈ xs, x.oneCell' = true
  | [], _, _, hr => by cases hr; simp
  | v :: vs, _, ho, ⟨c, cs, e, hv, hs⟩ => by
    subst e
    simp only [okCells] at ho
    split at ho
    · rename_i hk
      intro x hx
      rcases List.mem_cons.1 hx with rfl | hx
      · cases v <;> first
          | (cases hv; rfl)
          | (obtain ⟨_, _, rfl⟩ := hv; rfl)
          | (obtain ⟨_, _, _, rfl, _⟩ := hv; rfl)
          | (obtain ⟨_, _, rfl, _⟩ := hv; rfl)
          | (obtain ⟨_, rfl, _⟩ := hv; rfl)
          | (simp [okCell] at hk; done)
      · exact okCells_one ho hs x hx
    · cases ho

/-- a stretch of a row is written, none of it frozen -/
theorem store_row (P : Program) (g o : Nat) (t : TypeId) (fz : Nat × Nat) : ∀ (vs : List Value) (i : Nat) (cur : Array Value) (w : World), w.heap[g]? = some (.cells cur t fz) →
    (∀ j, o + i ≤ j → j < o + i + vs.length → ¬ (fz.1 ≤ j ∧ j < fz.2)) → o + i + vs.length ≤ cur.size → (∀ v ∈ vs, v.oneCell' = true) →
    (storeCells ⟨g, o, none⟩ vs i).run P w = .ok () (w.setRow g (cur.toList.take (o + i) ++ vs ++ cur.toList.drop (o + i + vs.length)).toArray)
  | [], i, cur, w, hg, _, _, _ => by
    simp only [storeCells, List.append_nil, List.length_nil, Nat.add_zero, List.take_append_drop, Array.toArray_toList]
    rw [setRow_self w g cur t fz hg]
    rfl
  | v :: rest, i, cur, w, hg, hfz, hl, h1 => by
    have hi : o + i < cur.size := by simp at hl; omega
    have hadd : (⟨g, o, none⟩ : Addr).add i = ⟨g, o + i, none⟩ := add_none _ _ _
    have hcell : w.cell? ⟨g, o + i, none⟩ = some cur[o + i] := by simp [World.cell?, hg, hi]
    have hfro : w.frozen? ⟨g, o + i, none⟩ = false := by
      have := hfz (o + i) (by omega) (by simp)
      simp only [World.frozen?, hg, Bool.and_eq_false_iff, decide_eq_false_iff_not]
      rcases Nat.lt_or_ge (o + i) fz.1 with h | h
      · left; omega
      · right; omega
    have hst : (store ((⟨g, o, none⟩ : Addr).add i) v).run P w = .ok () (w.setRow g (cur.setIfInBounds (o + i) v)) := by
      rw [hadd, run_store P w _ v _ (h1 v (by simp)), hcell]
      simp [hfro, setCell_eq_setRow w g (o + i) cur t fz v hg]
    have ih := store_row P g o t fz rest (i + 1) (cur.setIfInBounds (o + i) v) (w.setRow g (cur.setIfInBounds (o + i) v)) (setRow_heap w g cur _ t _ hg)
      (fun j h1 h2 => hfz j (by omega) (by simp; omega)) (by simp at hl ⊢; omega) (fun x hx => h1 x (by simp [hx]))
    simp only [storeCells, Sem.run_bind, hst, Result.andThen_ok, ih, setRow_setRow]
    congr 3
    have e := list_seg_step cur.toList (o + i) v rest (by simp at hl ⊢; omega)
    simpa [Array.toList_setIfInBounds, Nat.add_assoc] using e

theorem setRow_other (w : World) {g B : Nat} (cs : Array Value) (h : B ≠ g) : (w.setRow g cs).heap[B]? = w.heap[B]? := by
  simp only [World.setRow]
  rw [Array.getElem?_modify]
  simp [Ne.symm h]

theorem storeL_spec {b : Pos} {off : Nat} {vs : List V} {h' : H} (hs : storeL h b off vs = some h') : ∃ cs e g fz cs', h.get b = .cells cs e g fz false ∧ okCells vs = true ∧ fz ≤ off ∧ writeL cs off vs = some cs' ∧
    h' = h.put b (.cells cs' e g fz false) := by
  unfold storeL at hs
  split at hs
  · rename_i cs e g fz hg
    split at hs
    · rename_i hok
      split at hs
      · rename_i hle
        rw [bleN, decide_eq_true_eq] at hle
        split at hs
        · rename_i cs' hw; cases hs; exact ⟨cs, e, g, fz, cs', hg, hok, hle, hw, rfl⟩
        · cases hs
      · cases hs
    · cases hs
  · cases hs

/-- a write into a block -/
theorem storeL_rel (s : Sim G μ h w) {b : Pos} {l : Loc} (hb : μ b = some l) {off : Nat} {vs : List V} {xs : List Value} (hv : VRels μ vs xs) {h' : H} (hs : storeL h b off vs = some h') :
    h'.nx = h.nx ∧ ∃ w', Sim G μ h' w' ∧ (storeCells ⟨l.blk, l.base + off, none⟩ xs).run G.C.P w = .ok () w' := by
  obtain ⟨cs, e, g, fz, cs', hg, hok, hle, hw, rfl⟩ := storeL_spec hs
  obtain ⟨C, lo, hi, pre, mid, post, r⟩ := obj_cells s hb hg
  obtain ⟨hr', hlen⟩ := writeL_rel r.vals hv hw
  have hCs : C.size = pre.length + (mid.length + post.length) := by rw [← Array.length_toList, r.split]; simp
  have hb0 := r.base
  refine ⟨H.nx_put _ _ _, _, ?_, store_row G.C.P l.blk (l.base + off) e (lo, hi) xs 0 C w r.blk ?_ (by omega) (okCells_one hok hv)⟩
  · refine s.upd hb (by rw [hg]; rfl) (by rw [hg]; simp [O.ro]) _ _ (fun B hB => setRow_other w _ hB) (by simp) ⟨rfl, rfl, rfl⟩ ?_
    have hsplit : (C.toList.take (l.base + off + 0) ++ xs ++ C.toList.drop (l.base + off + 0 + xs.length)) = pre ++ ((mid.take off ++ (xs ++ mid.drop (off + xs.length))) ++ post) := by
      rw [r.split, ← hb0, Nat.add_zero, Nat.add_assoc, List.take_length_add_append, List.take_append_of_le_length (by omega), List.drop_length_add_append, List.drop_append_of_le_length (by omega)]
      simp
    refine ⟨_, lo, hi, pre, _, post, setRow_heap w _ _ _ _ _ r.blk, by rw [hsplit], hb0, hr', ?_, ?_⟩
    · rcases r.frz with h0 | ⟨h0, h00⟩
      · cases h0
      · refine .inr ⟨fun i hi' hlt => h0 i hi' ?_, h00⟩
        rw [hsplit] at hlt
        rw [hCs]
        simp at hlt ⊢
        have : (mid.take off).length + (xs.length + (mid.drop (off + xs.length)).length) = mid.length := by simp; omega
        simp at this
        omega
    · have hm : (mid.take off ++ (xs ++ mid.drop (off + xs.length))).length = mid.length := by simp; omega
      have hc : cs'.length = cs.length := by rw [hr'.length, hm, r.vals.length]
      have hsh := r.shape
      rw [hm, hc]; exact hsh
  · intro j h1 h2
    rcases r.frz with h0 | ⟨h0, _⟩
    · cases h0
    · have := h0 (j - l.base) (by omega) (by omega)
      rwa [show l.base + (j - l.base) = j by omega] at this

theorem run_setObj {P : Program} {r : Nat} {o o' : Obj} (ho : w.heap[r]? = some o) (hc : ∀ c e f, o ≠ .cells c e f) : (setObj r o').run P w = .ok () { w with heap := w.heap.setIfInBounds r o' } := by
  unfold setObj
  cases o <;> first | (simp only [Sem.run, ho]; done) | exact (hc _ _ _ rfl).elim

/-- an object that is no row is replaced -/
theorem Sim.setObj (s : Sim G μ h w) {b : Pos} {l : Loc} (hb : μ b = some l) (hlive : (h.get b).live = true) (hro : ¬ (h.get b).ro) (o : O) (x : Obj)
    (ho : ∀ w' : World, w'.heap[l.blk]? = some x → ORel μ l o w') : Sim G μ (h.put b o) { w with heap := w.heap.setIfInBounds l.blk x } := by
  refine s.upd hb hlive hro o _ (fun B hB => ?_) (by simp) ⟨rfl, rfl, rfl⟩ (ho _ ?_)
  · rw [Array.getElem?_setIfInBounds_ne (Ne.symm hB)]
  · have := (s.obj b l hb).lt hlive
    simp [this]
end
end Go.AE
