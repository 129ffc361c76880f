/-
  A part of the abstract evaluator's soundness: its operations agree with the model's. No conditions beyond the theorems' own.
-/
import Derived.Test.YtkmpjokcpboloaaGreatDoorAeD
import Derived.Lib.Bytealg
set_option linter.unusedSimpArgs false
set_option linter.unusedVariables false
namespace Go.AE

def OR (C : Ctx) (μ : Inj) (t : Tr V) (ρ : Operand → Value) : Prop := ∀ x v, opd C t x = some v → VRel μ v (ρ x)

theorem opd_rel {C : Ctx} {μ : Inj} {n : Nat} {t : Tr V} {a : Act} (ht : TRel μ n t a.tmps)
    (hg : ∀ g, C.gl g = true → ∃ l, μ (nm g) = some l ∧ l.blk = g ∧ l.base = 0) : OR C μ t a.eval := by
  intro x v h
  cases x with
  | tmp i => simp only [opd, Option.some.injEq] at h; subst h; exact ht.2 i
  | const c => exact ofValue_rel μ _ _ _ h
  | global g =>
    simp only [opd] at h
    cases hh : C.gl g with
    | false => rw [hh] at h; cases h
    | true =>
      rw [hh] at h; cases h
      obtain ⟨l, hl, rfl, hb⟩ := hg g hh
      exact ⟨l, hl, by simp [Act.eval, hb]⟩
  | func f => simp only [opd, Option.some.injEq] at h; subst h; exact ⟨[], [], rfl, rfl, rfl⟩

theorem opds_rel {C : Ctx} {μ : Inj} {t : Tr V} {ρ : Operand → Value} (h : OR C μ t ρ) : ∀ {xs : List Operand} {vs : List V}, opds C t xs = some vs → VRels μ vs (xs.map ρ)
  | [], vs, e => by simp only [opds, Option.some.injEq] at e; subst e; rfl
  | x :: xs, vs, e => by
    simp only [opds] at e
    split at e
    · rename_i v hv
      split at e
      · rename_i vs' hvs; cases e; exact VRels.cons (h _ _ hv) (opds_rel h hvs)
      · cases e
    · cases e

section
variable {C : Ctx} {μ : Inj}

theorem eqBytes_eq : ∀ (a b : List UInt8), eqBytes a b = decide (a = b)
  | [], [] => rfl
  | [], _ :: _ => rfl
  | _ :: _, [] => rfl
  | a :: as, b :: bs => by
    simp only [eqBytes, beqN]
    by_cases h : a.toNat = b.toNat
    · have : a = b := UInt8.toNat_inj.mp h
      subst this; simp [eqBytes_eq as bs]
    · have : a ≠ b := fun e => h (by rw [e])
      simp [h, this]

/-! writing rows -/
theorem writeHere_rel : ∀ {cs vs cs' : List V} {l xs : List Value}, VRels μ cs l → VRels μ vs xs → writeHere cs vs = some cs' →
    VRels μ cs' (xs ++ l.drop xs.length) ∧ xs.length ≤ l.length
  | cs, [], cs', l, xs, hc, hv, h => by
    cases hv
    cases cs <;> simp only [writeHere, Option.some.injEq] at h <;> subst h <;> exact ⟨by simpa using hc, by simp⟩
  | [], _ :: _, _, _, _, _, _, h => by simp [writeHere] at h
  | c :: cs, v :: vs, cs', l, xs, ⟨y, ys, e1, h1, h2⟩, ⟨x, xs', e2, h3, h4⟩, h => by
    subst e1; subst e2
    simp only [writeHere] at h
    split at h
    · rename_i l' hl; cases h
      obtain ⟨r1, r2⟩ := writeHere_rel h2 h4 hl
      exact ⟨VRels.cons h3 (by simpa using r1), by simp; omega⟩
    · cases h
theorem writeL_rel : ∀ {cs : List V} {off : Nat} {vs cs' : List V} {l xs : List Value}, VRels μ cs l → VRels μ vs xs → writeL cs off vs = some cs' →
    VRels μ cs' (l.take off ++ (xs ++ l.drop (off + xs.length))) ∧ off + xs.length ≤ l.length
  | cs, 0, vs, cs', l, xs, hc, hv, h => by
    have := writeHere_rel hc hv (by simpa [writeL] using h)
    simpa using this
  | [], _ + 1, _, _, _, _, _, _, h => by simp [writeL] at h
  | c :: cs, n + 1, vs, cs', l, xs, ⟨y, ys, e1, h1, h2⟩, hv, h => by
    subst e1
    simp only [writeL] at h
    split at h
    · rename_i l' hl; cases h
      obtain ⟨r1, r2⟩ := writeL_rel h2 hv hl
      refine ⟨VRels.cons h1 ?_, by simp; omega⟩
      rw [show n + 1 + xs.length = (n + xs.length) + 1 by omega]
      simpa using r1
    · cases h

theorem foldl_set (xs : List Value) : ∀ (pre : List Value) (q r : List Value) (k : Nat), q.length = xs.length →
    ((xs.toArray.zipIdx k).foldl (fun (cs : Array Value) (p : Value × Nat) => cs.setIfInBounds (pre.length - k + p.2) p.1) (pre ++ (q ++ r)).toArray) = (pre ++ (xs ++ r)).toArray ∨ k > pre.length := by
  induction xs with
  | nil => intro pre q r k h; left; simp at h; subst h; rw [← Array.foldl_toList, show (([] : List Value).toArray.zipIdx k).toList = [] by simp]; simp
  | cons x xs ih =>
    intro pre q r k h
    by_cases hk : k > pre.length
    · exact .inr hk
    · left
      match q, h with
      | y :: q, h =>
        have hz : ((x :: xs).toArray.zipIdx k).toList = (x, k) :: (xs.toArray.zipIdx (k + 1)).toList := by simp [List.zipIdx_cons]
        rw [← Array.foldl_toList, hz, List.foldl_cons, Array.foldl_toList]
        have e : (pre ++ (y :: q ++ r)).toArray.setIfInBounds (pre.length - k + k) x = ((pre ++ [x]) ++ (q ++ r)).toArray := by
          apply Array.ext'
          rw [Nat.sub_add_cancel (by omega)]
          simp [List.set_append]
        rw [e]
        rcases ih (pre ++ [x]) q r (k + 1) (by simpa using h) with h' | h'
        · simp only [List.length_append, List.length_cons, List.length_nil] at h'
          rw [show pre.length + (0 + 1) - (k + 1) = pre.length - k by omega] at h'
          rw [h']; simp
        · simp at h'; omega

theorem fill_step (cells : List Value) (v : Array Value) (off : Nat) (h : off + v.size ≤ cells.length) :
    (v.zipIdx.foldl (fun (cs : Array Value) (p : Value × Nat) => cs.setIfInBounds (off + p.2) p.1) ⟨cells⟩) = ⟨cells.take off ++ (v.toList ++ cells.drop (off + v.size))⟩ := by
  have h1 : (cells.take off).length = off := by simp; omega
  have key := foldl_set v.toList (cells.take off) ((cells.drop off).take v.size) (cells.drop (off + v.size)) 0 (by simp; omega)
  rcases key with h' | h'
  · simp only [h1, Nat.sub_zero] at h'
    have e : cells.take off ++ ((cells.drop off).take v.size ++ cells.drop (off + v.size)) = cells := by
      rw [← List.drop_drop, List.take_append_drop, List.take_append_drop]
    rw [e] at h'
    simpa using h'
  · omega

theorem fill_rel {place place' : Nat → Option (Nat × Nat)} (hp : ∀ i x, place i = some x → place' i = some x) :
    ∀ {ps : List (Nat × V)} {qs : List (Nat × Value)} {cs cs' : List V} {l : List Value},
    (ps.map (·.1) = qs.map (·.1)) → VRels μ (ps.map (·.2)) (qs.map (·.2)) → VRels μ cs l → fillL place cs ps = some cs' → ∃ l', Instr.fill place' ⟨l⟩ qs = some ⟨l'⟩ ∧ VRels μ cs' l'
  | [], [], cs, cs', l, _, _, hc, h => by simp only [fillL, Option.some.injEq] at h; subst h; exact ⟨l, rfl, hc⟩
  | [], _ :: _, _, _, _, e, _, _, _ => by simp at e
  | _ :: _, [], _, _, _, e, _, _, _ => by simp at e
  | (i, v) :: ps, (j, c) :: qs, cs, cs', l, e, hv, hc, h => by
    simp only [List.map_cons, List.cons.injEq] at e
    obtain ⟨rfl, e⟩ := e
    obtain ⟨y, ys, e1, h1, h2⟩ := hv
    simp only [List.map_cons, List.cons.injEq] at e1
    obtain ⟨rfl, rfl⟩ := e1
    simp only [fillL] at h
    split at h
    · cases h
    · rename_i off size hpl
      split at h
      · rename_i hlen
        rw [beqN, decide_eq_true_eq] at hlen
        split at h
        · rename_i cs1 hw
          have hcl := V.cells_rel h1
          obtain ⟨r1, r2⟩ := writeL_rel hc hcl hw
          have hl2 : c.cells.size = size := by rw [← hlen, hcl.length]; simp
          simp only [Array.length_toList] at r2
          obtain ⟨l', hl', hr'⟩ := fill_rel hp e h2 r1 h
          refine ⟨l', ?_, hr'⟩
          simp only [Instr.fill, hp _ _ hpl, hl2]
          rw [if_neg (by
            simp only [bne_self_eq_false, Bool.false_or, decide_eq_true_eq, List.size_toArray]
            have : off + size ≤ l.length := by omega
            simp; omega)]
          rw [fill_step l c.cells off (by omega)]
          simpa using hl'
        · cases h
      · cases h

end
end Go.AE
