/-
  A part of the abstract evaluator's soundness: its operations agree with the model's. No conditions beyond the theorems' own.
-/
import Derived.Test.YtkmpjokcpboloaaGreatDoorAeE
import Derived.DeepKeys
set_option linter.unusedSimpArgs false
set_option linter.unusedVariables false
namespace Go.AE

/-! equality at plain types -/
def eqAt (xs ys : List V) : List (Nat × Kd) → Option Bool
  | [] => some true
  | (i, k) :: l => match nthL xs i, nthL ys i with
    | some a, some b => match eqCell k a b with
      | some true => eqAt xs ys l
      | some false => some false
      | none => none
    | _, _ => none

theorem eqAt_append (xs ys : List V) : ∀ (a b : List (Nat × Kd)), eqAt xs ys (a ++ b) = match eqAt xs ys a with
    | some true => eqAt xs ys b
    | r => r
  | [], b => rfl
  | (i, k) :: a, b => by
    simp only [List.cons_append, eqAt]
    cases nthL xs i <;> cases nthL ys i <;> simp only
    split
    · exact eqAt_append xs ys a b
    · rfl
    · rfl

theorem inRow_eqAt (xs ys : List V) : ∀ (l : List (Nat × Kd)) (n : Nat) (ks : List Kd) (r : Bool), inRow l n = some ks →
    eqCells ks (xs.drop n) (ys.drop n) = some r → eqAt xs ys l = some r
  | [], n, ks, r, h, e => by
    simp only [inRow, Option.some.injEq] at h; subst h
    cases hx : xs.drop n with
    | nil => cases hy : ys.drop n with
      | nil => rw [hx, hy] at e; simpa [eqCells, eqAt] using e
      | cons b bs => rw [hx, hy] at e; simp [eqCells] at e
    | cons a as => rw [hx] at e; simp [eqCells] at e
  | (i, k) :: l, n, ks, r, h, e => by
    simp only [inRow] at h
    split at h
    · rename_i hi; rw [beqN, decide_eq_true_eq] at hi; subst hi
      split at h
      · rename_i ks' hks; cases h
        simp only [eqAt, nthL_eq]
        cases hx : xs.drop i with
        | nil => rw [hx] at e; simp [eqCells] at e
        | cons a as =>
          cases hy : ys.drop i with
          | nil => rw [hx, hy] at e; simp [eqCells] at e
          | cons b bs =>
            rw [hx, hy] at e
            have ax : xs[i]? = some a := by have := congrArg (·[0]?) hx; simpa using this
            have ay : ys[i]? = some b := by have := congrArg (·[0]?) hy; simpa using this
            have dx : xs.drop (i + 1) = as := by rw [← List.drop_drop, hx]; rfl
            have dy : ys.drop (i + 1) = bs := by rw [← List.drop_drop, hy]; rfl
            simp only [ax, ay]
            simp only [eqCells] at e
            split at e
            · rename_i hc; simp only [hc]; exact inRow_eqAt xs ys l (i + 1) _ r hks (by rw [dx, dy]; exact e)
            · rename_i hc; simp only [hc]; exact e
            · cases e
      · cases h
    · cases h

section
variable {P : Program}

def AggT (P : Program) (t : TypeId) : Prop := (∃ fs, P.underlying t = some (.struct fs)) ∨ (∃ n e, P.underlying t = some (.array n e))
def IsPart (P : Program) (t : TypeId) (cx : List Value) (off : Nat) (X : Value) : Prop :=
  (AggT P t ∧ ∃ A : Array Value, X = .agg A ∧ ∀ i, i < P.cellsOf t → A[i]? = cx[off + i]?) ∨ (¬ AggT P t ∧ cx[off]? = some X)

theorem flat_info {n t off l} (h : flat P n t off = some l) : ∃ i, P.info? t = some i := by
  cases n with
  | zero => simp [flat] at h
  | succ n =>
    unfold flat at h
    cases hi : P.info? t with
    | some i => exact ⟨i, rfl⟩
    | none => simp [Program.underlying, hi] at h

theorem flat_cell {n t off l} (h : flat P n t off = some l) (hn : ¬ AggT P t) : P.cellsOf t = 1 ∧ ∃ k, l = [(off, k)] := by
  cases n with
  | zero => simp [flat] at h
  | succ n =>
    unfold flat at h
    have one : ∀ k, flat.oneC (P.cellsOf t) off k = some l → P.cellsOf t = 1 ∧ ∃ k, l = [(off, k)] := fun k hk => by
      unfold flat.oneC at hk
      split at hk
      · rename_i hb; rw [beqN, decide_eq_true_eq] at hb; cases hk; exact ⟨hb, _, rfl⟩
      · cases hk
    split at h
    · exact one _ h
    · exact one _ h
    · exact one _ h
    · rename_i fs hu; exact (hn (.inl ⟨fs, hu⟩)).elim
    · rename_i len e hu; exact (hn (.inr ⟨len, e, hu⟩)).elim
    · cases h

theorem isAgg_of {t : TypeId} (h : AggT P t) (w : World) : (isAgg t).run P w = .ok true w := by
  rcases h with ⟨fs, h⟩ | ⟨n, e, h⟩ <;> simp [isAgg, run_underlying h]
theorem isAgg_not {t : TypeId} {i} (hi : P.info? t = some i) (hd : ∃ d, P.underlying t = some d) (h : ¬ AggT P t) (w : World) : (isAgg t).run P w = .ok false w := by
  obtain ⟨d, hd⟩ := hd
  simp only [isAgg, Sem.run_bind, run_underlying hd, Result.andThen_ok]
  cases d <;> first | rfl | (rename_i fs; exact (h (.inl ⟨fs, hd⟩)).elim) | (rename_i a b; exact (h (.inr ⟨a, b, hd⟩)).elim)

theorem run_part_in {n : Nat} {t f : TypeId} {μ : Inj} {xs : List V} {cx : List Value} {off fo : Nat} {A : Array Value} {l : List (Nat × Kd)} (hx : VRels μ xs cx)
    (hf : flat P n f (off + fo) = some l) (hA : ∀ i, i < P.cellsOf t → A[i]? = cx[off + i]?) (hle : fo + P.cellsOf f ≤ P.cellsOf t)
    (hc : ¬ AggT P f → ∃ v, nthL xs (off + fo) = some v) :
    ∃ X, (∀ w, (part f A fo).run P w = .ok X w) ∧ IsPart P f cx (off + fo) X := by
  obtain ⟨i, hi⟩ := flat_info hf
  have hs : P.cellsOf f = i.size := by simp [Program.cellsOf, hi]
  by_cases hag : AggT P f
  · refine ⟨.agg (A.extract fo (fo + i.size)), fun w => ?_, .inl ⟨hag, _, rfl, ?_⟩⟩
    · simp [part, isAgg_of hag, sizeOf, run_info hi]
    · intro j hj
      rw [hs] at hj hle
      have := hA (fo + j) (by omega)
      rw [Nat.add_assoc, ← this, Array.getElem?_extract]
      split
      · rfl
      · rw [Array.getElem?_eq_none]; omega
  · obtain ⟨v, hv⟩ := hc hag
    obtain ⟨c, hcx, _⟩ := hx.get _ hv
    obtain ⟨h1, _⟩ := flat_cell hf hag
    have hu : ∃ d, P.underlying f = some d := by
      cases n with
      | zero => simp [flat] at hf
      | succ n =>
        unfold flat at hf
        cases hu : P.underlying f with
        | some d => exact ⟨d, rfl⟩
        | none => simp [hu] at hf
    have := hA fo (by omega)
    rw [hcx] at this
    exact ⟨c, fun w => by simp [part, isAgg_not hi hu hag, this], .inr ⟨hag, hcx⟩⟩

/-- what an answer tells of the first cell -/
theorem eqAt_first {n t off l} {xs ys : List V} {r} (h : flat P n t off = some l) (he : eqAt xs ys l = some r) : ¬ AggT P t → (∃ v, nthL xs off = some v) ∧ (∃ v, nthL ys off = some v) := fun hn => by
  obtain ⟨_, k, rfl⟩ := flat_cell h hn
  simp only [eqAt] at he
  cases hx : nthL xs off <;> cases hy : nthL ys off <;> simp only [hx, hy] at he <;> first | cases he | exact ⟨⟨_, rfl⟩, ⟨_, rfl⟩⟩

theorem eqAt_prefix {xs ys : List V} {a b : List (Nat × Kd)} {r} (h : eqAt xs ys (a ++ b) = some r) : ∃ q, eqAt xs ys a = some q ∧ (q = true → eqAt xs ys b = some r) ∧ (q = false → r = false) := by
  rw [eqAt_append] at h
  cases ha : eqAt xs ys a with
  | none => rw [ha] at h; cases h
  | some q =>
    cases q
    · rw [ha] at h; simp at h; exact ⟨false, rfl, by simp, fun _ => h⟩
    · rw [ha] at h; exact ⟨true, rfl, fun _ => h, by simp⟩

theorem equal_flat : ∀ (n : Nat) (t : TypeId) (off : Nat) (l : List (Nat × Kd)), flat P n t off = some l → ∀ (d : Nat), n ≤ d → ∀ {μ : Inj} {xs ys : List V} {cx cy : List Value},
    VRels μ xs cx → VRels μ ys cy → ∀ (X Y : Value), IsPart P t cx off X → IsPart P t cy off Y → ∀ r, eqAt xs ys l = some r → ∀ w, (Op.equalIn d t X Y).run P w = .ok r w := by
  intro n
  induction n with
  | zero => intro t off l h; simp [flat] at h
  | succ n IH =>
    intro t off l h d hd μ xs ys cx cy hx hy X Y pX pY r he w
    match d, hd with
    | 0, hd => omega
    | d + 1, hd =>
    by_cases hag : AggT P t
    · obtain ⟨_, A, rfl, hA⟩ := pX.resolve_right (fun hh => hh.1 hag)
      obtain ⟨_, B, rfl, hB⟩ := pY.resolve_right (fun hh => hh.1 hag)
      unfold flat at h
      rcases hag with ⟨fs, hu⟩ | ⟨len, e, hu⟩
      · rw [hu] at h
        simp only at h
        cases hst : P.stoodInHeld t with
        | true => rw [hst] at h; cases h
        | false =>
          rw [hst] at h
          simp only at h
          have hfs : P.fieldsOf t = fs := by simp [Program.fieldsOf, hu]
          rw [run_equalIn_struct w d t A B (by rw [hfs]; exact hu) hst, hfs]
          clear hfs hu hst
          generalize fs.toList = gs at h
          clear fs
          induction gs generalizing l r w with
          | nil => simp only [flat.flatF, Option.some.injEq] at h; subst h; simp only [eqAt, Option.some.injEq] at he; subst he; simp [Op.eqFields]
          | cons f gs ih =>
            simp only [flat.flatF] at h
            split at h
            · rename_i hname hsz
              rw [bleN, decide_eq_true_eq] at hsz
              split at h
              · rename_i a b ha hb; cases h
                obtain ⟨q, hq, h1, h2⟩ := eqAt_prefix he
                obtain ⟨X', rX, qX⟩ := run_part_in (t := t) (fo := f.offset) hx ha hA hsz (fun hn => (eqAt_first ha hq hn).1)
                obtain ⟨Y', rY, qY⟩ := run_part_in (t := t) (fo := f.offset) hy ha hB hsz (fun hn => (eqAt_first ha hq hn).2)
                have hr := IH f.type _ a ha d (by omega) hx hy X' Y' qX qY q hq w
                have hn' : f.name ≠ "_" := by simpa using hname
                simp only [Op.eqFields, hn', ne_eq, not_false_eq_true, if_true, Sem.run_bind, rX, rY, Result.andThen_ok, hr]
                cases q
                · rw [h2 rfl]; simp
                · simpa using ih b r (h1 rfl) w hb
              · cases h
            · cases h
      · rw [hu] at h
        simp only at h
        cases hi : P.info? e with
        | none => rw [hi] at h; cases h
        | some i =>
          rw [hi] at h
          simp only at h
          cases hsz : Nat.ble (len * i.size) (P.cellsOf t) with
          | false => rw [hsz] at h; cases h
          | true =>
            rw [hsz] at h
            rw [bleN, decide_eq_true_eq] at hsz
            simp only at h
            have hs : P.cellsOf e = i.size := by simp [Program.cellsOf, hi]
            rw [run_equalIn_array w d A B hu hi, hs]
            have key : ∀ (m k : Nat), k + m ≤ len → ∀ l r w, flat.flatA (fun k => flat P n e (off + k * i.size)) m k = some l → eqAt xs ys l = some r →
                (Op.eqItems d e i.size A B (List.range' k m)).run P w = .ok r w := by
              intro m
              induction m with
              | zero => intro k _ l r w h he; simp only [flat.flatA, Option.some.injEq] at h; subst h; simp only [eqAt, Option.some.injEq] at he; subst he; simp [Op.eqItems]
              | succ m ih =>
                intro k hk l r w h he
                simp only [flat.flatA] at h
                split at h
                · rename_i a b ha hb; cases h
                  obtain ⟨q, hq, h1, h2⟩ := eqAt_prefix he
                  have hle : k * i.size + P.cellsOf e ≤ P.cellsOf t := by
                    rw [hs]
                    have : (k + 1) * i.size ≤ len * i.size := Nat.mul_le_mul_right _ (by omega)
                    rw [Nat.add_mul] at this; omega
                  obtain ⟨X', rX, qX⟩ := run_part_in (t := t) (fo := k * i.size) hx ha hA hle (fun hn => (eqAt_first ha hq hn).1)
                  obtain ⟨Y', rY, qY⟩ := run_part_in (t := t) (fo := k * i.size) hy ha hB hle (fun hn => (eqAt_first ha hq hn).2)
                  have hr := IH e _ a ha d (by omega) hx hy X' Y' qX qY q hq w
                  simp only [List.range'_succ, Op.eqItems, Sem.run_bind, rX, rY, Result.andThen_ok, hr]
                  cases q
                  · rw [h2 rfl]; simp
                  · simpa using ih (k + 1) (by omega) b r w hb (h1 rfl)
                · cases h
            have := key len 0 (by omega) l r w h he
            rw [List.range_eq_range']
            exact this
    · obtain ⟨_, hcx⟩ := pX.resolve_left (fun hh => hag hh.1)
      obtain ⟨_, hcy⟩ := pY.resolve_left (fun hh => hag hh.1)
      obtain ⟨_, k, hl⟩ := flat_cell h hag
      subst hl
      simp only [eqAt] at he
      cases ax : nthL xs off with
      | none => simp only [ax] at he; cases he
      | some a =>
        cases ay : nthL ys off with
        | none => simp only [ax, ay] at he; cases he
        | some b =>
          simp only [ax, ay] at he
          obtain ⟨c1, e1, v1⟩ := hx.get _ ax
          obtain ⟨c2, e2, v2⟩ := hy.get _ ay
          rw [hcx] at e1; cases e1
          rw [hcy] at e2; cases e2
          have hk : eqCell k a b = some r := by
            split at he
            · rename_i hh; rw [hh]; exact he
            · rename_i hh; rw [hh]; exact he
            · cases he
          have hu : ∃ d, P.underlying t = some d ∧ ((d = .bool ∧ k = .b) ∨ ((∃ q, d = .int q) ∧ k = .i) ∨ (d = .string ∧ k = .s)) := by
            unfold flat at h
            unfold flat.oneC at h
            split at h
            · rename_i hu; refine ⟨_, hu, .inl ⟨rfl, ?_⟩⟩; split at h <;> simp_all
            · rename_i hu; refine ⟨_, hu, .inr (.inl ⟨⟨_, rfl⟩, ?_⟩)⟩; split at h <;> simp_all
            · rename_i hu; refine ⟨_, hu, .inr (.inr ⟨rfl, ?_⟩)⟩; split at h <;> simp_all
            · rename_i fs hu; exact (hag (.inl ⟨fs, hu⟩)).elim
            · rename_i len e hu; exact (hag (.inr ⟨len, e, hu⟩)).elim
            · cases h
          obtain ⟨dd, hu, hcase⟩ := hu
          rcases hcase with ⟨rfl, rfl⟩ | ⟨⟨q, rfl⟩, rfl⟩ | ⟨rfl, rfl⟩
          · cases a <;> cases b <;> simp only [eqCell] at hk <;> try (cases hk; done)
            cases v1; cases v2; cases hk
            rw [run_equalIn_bool' w d t _ _ hu, eqB_eq]
          · cases a <;> cases b <;> simp only [eqCell] at hk <;> try (cases hk; done)
            split at hk
            · rename_i hkk; rw [eqK_eq, decide_eq_true_eq] at hkk; subst hkk
              cases v1; cases v2; cases hk
              rw [run_equalIn_int w d t _ _ _ _ hu, eqI_eq]
              rfl
            · cases hk
          · cases a <;> cases b <;> simp only [eqCell] at hk <;> try (cases hk; done)
            cases v1; cases v2; cases hk
            rw [run_equalIn_string w d t _ _ hu, eqBytes_eq, Lib.toList_data, Lib.toList_data]
            congr 1
            rw [Bool.eq_iff_iff]; simp
end
end Go.AE
