/-
  A part of the abstract evaluator's soundness: its operations agree with the model's. No conditions beyond the theorems' own.
-/
import Derived.Test.YtkmpjokcpboloaaGreatDoorAeU
set_option linter.unusedSimpArgs false
set_option linter.unusedVariables false
namespace Go.AE

section
variable {G : Gp} {μ : Inj} {h : H} {w : World} {t : Tr V} {ρ : Operand → Value}

/-- nothing is appended -/
theorem append0_rel (s : Sim G μ h w) {ty tx oty e : TypeId} {rest : List TypeId} {i : TypeInfo} {z : Value} {sv : V} {cs cx : Value} (hu : und G.C ty = some (.slice e)) (hi : G.C.P.info? e = some i) (hz : (∃ k, G.C.P.underlying tx = some (.int k)) → i.zero = some z)
    (hsv : VRel μ sv cs) (ha : Apd G.C.P i z tx cx 0 [] w) : (append0 h sv).any (GivesV G h.nx μ w (Builtin.append_ ⟨ty :: tx :: rest⟩ oty #[cs, cx])) := by
  have hu' : G.C.P.underlying ty = some (.slice e) := hu
  have key : ∀ base len cap, cs = .slice base len cap → len ≤ cap → (Builtin.append_ ⟨ty :: tx :: rest⟩ oty #[cs, cx]).run G.C.P w = .ok cs w := by
    intro base len cap hcs hle
    subst hcs
    exact run_app_room (oty := oty) (rest := rest) hu' hi hz ha (by omega) (fun a _ => by simp [storeCells]) (fun _ => rfl)
  unfold append0
  split
  · have hcs : cs = .slice none 0 0 := hsv
    exact GivesV.pure s (Nat.le_refl _) hsv (key _ _ _ hcs (Nat.le_refl _))
  · obtain ⟨l, m, hl, hcs, h1, h2, h3⟩ := id hsv
    exact GivesV.pure s (Nat.le_refl _) hsv (key _ _ _ hcs h2)
  · rename_i b off len c
    split
    · rename_i hle
      rw [bleN, decide_eq_true_eq] at hle
      obtain ⟨l, m, hl, hcs, hm⟩ := id hsv
      have hm' : m = c := hm
      subst hm'
      exact GivesV.pure s (Nat.le_refl _) hsv (key _ _ _ hcs hle)
    · trivial
  · trivial

theorem elem_info {C : Ctx} {e : TypeId} {n : Nat} (h : szOf C e = some n) : ∃ i, C.P.info? e = some i ∧ i.size = n := szOf_spec h

theorem takeL_len {n : Nat} {cs l : List V} (h : takeL n cs = some l) : l.length = n := by
  rw [takeL_eq] at h
  split at h
  · cases h; rw [List.length_take]; omega
  · cases h

theorem firstL_len {h : H} {sz n : Nat} {x : V} {l : List V} (hl : firstL h sz n x = some l) (hm : lenV x = some n) : l.length = n * sz := by
  unfold firstL at hl
  split at hl
  · cases hl; simp [lenV] at hm; subst hm; simp
  · split at hl
    · exact takeL_len hl
    · cases hl
  · rename_i st
    split at hl
    · rename_i h1
      rw [beqN, decide_eq_true_eq] at h1
      cases hl
      simp only [lenV, Option.some.injEq] at hm
      subst h1; subst hm
      have : st.data.size = st.size := rfl
      simp [this]
    · cases hl
  · cases hl

theorem elemApd {i : TypeInfo} {z : Value} {tx : TypeId} {x : V} {cx : Value} {n : Nat} {d : TypeDesc} (hd : und G.C tx = some d) (hk : ∀ k, d ≠ .int k) (hx : VRel μ x cx) (hn : lenV x = some n) {news : List Value}
    (hr : ∀ k, (Builtin.firstCells i.size n cx).run G.C.P { w with drawn := k } = .ok ⟨news⟩ { w with drawn := k }) : Apd G.C.P i z tx cx n news w :=
  .inl ⟨⟨d, hd, hk⟩, lenV_rel (G := G) hx hn, hr⟩

theorem appendV_rel (s : Sim G μ h w) {ty tx oty : TypeId} {rest : List TypeId} {d : TypeDesc} {sv x : V} {cs cx : Value} (hd : und G.C tx = some d) (hk : ∀ k, d ≠ .int k) (hsv : VRel μ sv cs) (hx : VRel μ x cx) :
    (appendV G.C h ty sv x).any (GivesV G h.nx μ w (Builtin.append_ ⟨ty :: tx :: rest⟩ oty #[cs, cx])) := by
  unfold appendV
  split
  · trivial
  · rename_i e he
    have hu := elemOf_spec he
    split
    · rename_i sz hsz
      obtain ⟨i0, hi0, hs0⟩ := elem_info hsz
      unfold appendX
      split
      · trivial
      · rename_i hl
        have hz0 : ∀ k, (Builtin.firstCells i0.size 0 cx).run G.C.P { w with drawn := k } = .ok ⟨[]⟩ { w with drawn := k } := by
          intro k
          cases x <;> simp only [lenV] at hl <;> (try cases hl)
          · cases hx
            show Result.ok _ _ = Result.ok _ _
            congr 1
            apply Array.ext'
            simp
          · obtain ⟨l, m, hl', rfl, _⟩ := hx
            simp [Builtin.firstCells, loadCells, loadCellsFrom, Sem.run]
          · cases hx; rfl
        exact append0_rel (z := .nilIface) s hu hi0 (fun ⟨k, e⟩ => absurd (Option.some.inj (hd.symm.trans e)) (hk k)) hsv (elemApd hd hk hx hl hz0)
      · rename_i n hn0 hl
        split
        · trivial
        · rename_i new hnew
          obtain ⟨news, hr, hrun⟩ := firstL_relK s hx hnew
          have hpos : 0 < n := by have : n ≠ 0 := fun h => hn0 h; omega
          refine appendG_rel s hu hsz hsv hpos hr (by rw [← hr.length, firstL_len hnew hl]) fun i z hi hz hb hzs => ?_
          have his : i.size = sz + 1 := by rw [hi0] at hi; cases hi; exact hs0
          exact elemApd hd hk hx hl (by rw [his]; exact hrun)
    · trivial

theorem appendZ_rel (s : Sim G μ h w) {ty tx oty : TypeId} {rest : List TypeId} {kd k : IntKind} {sv : V} {cs : Value} {n : Nat} (hd : und G.C tx = some (.int kd)) (hsv : VRel μ sv cs) :
    (appendZ G.C h ty sv n).any (GivesV G h.nx μ w (Builtin.append_ ⟨ty :: tx :: rest⟩ oty #[cs, .int k n])) := by
  unfold appendZ
  split
  · trivial
  · rename_i e he
    have hu := elemOf_spec he
    split
    · rename_i sz z hsz hz
      obtain ⟨i0, zc, hi0, hzc, hzr⟩ := zeroV_spec hz
      have hs0 : i0.size = sz + 1 := by obtain ⟨i2, h1, h2⟩ := elem_info hsz; rw [hi0] at h1; cases h1; exact h2
      have hcl := V.cells_rel (hzr μ)
      split
      case h_2 => trivial
      rename_i hzl
      rw [beqN, decide_eq_true_eq] at hzl
      have hzs : zc.cells.size = i0.size := by rw [hs0, ← hzl, hcl.length]; simp
      unfold appendO
      split
      · exact append0_rel s hu hi0 (fun _ => hzc) hsv (.inr ⟨⟨kd, hd⟩, ⟨k, rfl⟩, by omega, by simp, rfl, hzs, by omega⟩)
      · rename_i hn0
        split
        · rename_i hle
          rw [bleN, decide_eq_true_eq] at hle
          have hpos : 0 < n := by have : n ≠ 0 := fun h => hn0 h; omega
          have hr := repl_rel hcl n
          refine appendG_rel s hu hsz hsv hpos hr (by rw [replC_length, ← hs0, ← hzs]; simp) fun i z' hi hz' hb hzs' => ?_
          rw [hi0] at hi; cases hi
          rw [hzc] at hz'; cases hz'
          exact .inr ⟨⟨kd, hd⟩, ⟨k, rfl⟩, hle, by omega, rfl, hzs, by omega⟩
        · trivial
    · trivial
end
end Go.AE
