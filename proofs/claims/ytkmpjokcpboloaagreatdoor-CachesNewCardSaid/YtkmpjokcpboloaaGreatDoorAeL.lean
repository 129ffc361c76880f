/-
  A part of the abstract evaluator's soundness: its operations agree with the model's. No conditions beyond the theorems' own.
-/
import Derived.Test.YtkmpjokcpboloaaGreatDoorAeK
set_option linter.unusedSimpArgs false
set_option linter.unusedVariables false
namespace Go.AE

/-! map keys -/
section
variable {P : Program} {μ : Inj}

/-- all the cells of a flat row are there -/
def has (xs : List V) (l : List (Nat × Kd)) : Prop := ∀ x ∈ l, ∃ v, nthL xs x.1 = some v

theorem check_cell {t : TypeId} {d : TypeDesc} (hu : P.underlying t = some d) (hn : ¬ AggT P t) (hi : ∀ ms, d ≠ .interface ms) (e : Bool) (n : Nat) (X : Value) (w : World) :
    (Instr.checkKey e (n + 1) t X).run P w = .ok () w := by
  rw [Instr.checkKey]
  simp only [Sem.run_bind, run_underlying hu, Result.andThen_ok]
  cases d <;> first
    | rfl
    | (rename_i ms; exact (hi ms rfl).elim)
    | (rename_i fs; exact (hn (.inl ⟨fs, hu⟩)).elim)
    | (rename_i a b; exact (hn (.inr ⟨a, b, hu⟩)).elim)

theorem forIn_pure {α : Type} (w : World) (f : α → Sem Unit) : ∀ (l : List α), (∀ x ∈ l, (f x).run P w = .ok () w) →
    (forIn (m := Sem) l PUnit.unit fun x _ => do f x; pure (.yield PUnit.unit)).run P w = .ok PUnit.unit w
  | [], _ => by simp
  | x :: l, h => by
    rw [List.forIn_cons]
    simp only [Sem.run_bind, h x (by simp), Result.andThen_ok, Sem.run_pure]
    exact forIn_pure w f l fun y hy => h y (by simp [hy])

theorem check_flat (em : Bool) : ∀ (n : Nat) (t : TypeId) (off : Nat) (l : List (Nat × Kd)), flat P n t off = some l → ∀ (d : Nat), n ≤ d → ∀ {xs : List V} {cx : List Value},
    VRels μ xs cx → ∀ (X : Value), IsPart P t cx off X → has xs l → ∀ w, (Instr.checkKey em d t X).run P w = .ok () w := by
  intro n
  induction n with
  | zero => intro t off l h; simp [flat] at h
  | succ n IH =>
    intro t off l h d hd xs cx hx X pX hl w
    match d, hd with
    | 0, hd => omega
    | d + 1, hd =>
      by_cases hag : AggT P t
      · obtain ⟨_, A, rfl, hA⟩ := pX.resolve_right (fun hh => hh.1 hag)
        unfold flat at h
        rcases hag with ⟨fs, hu⟩ | ⟨len, e, hu⟩
        · rw [hu] at h
          simp only at h
          cases hst : P.stoodInHeld t with
          | true => rw [hst] at h; cases h
          | false =>
            rw [hst] at h
            simp only at h
            rw [Instr.checkKey]
            simp only [Sem.run_bind, run_underlying hu, Result.andThen_ok]
            rw [← Array.forIn_toList]
            clear hu hst
            generalize fs.toList = gs at h
            clear fs
            induction gs generalizing l with
            | nil => simp
            | cons f gs ih =>
              simp only [flat.flatF] at h
              split at h
              · rename_i hname hsz
                rw [bleN, decide_eq_true_eq] at hsz
                split at h
                · rename_i a b ha hb; cases h
                  have hla : has xs a := fun x hx => hl x (List.mem_append_left _ hx)
                  obtain ⟨X', rX, qX⟩ := run_part_in (t := t) (fo := f.offset) hx ha hA hsz (fun hn => by
                    obtain ⟨_, k, e⟩ := flat_cell ha hn
                    exact hla (off + f.offset, k) (by rw [e]; simp))
                  have hn' : f.name ≠ "_" := by simpa using hname
                  have hr := IH f.type _ a ha d (by omega) hx X' qX hla w
                  have hih := ih b (fun x hx => hl x (List.mem_append_right _ hx)) hb
                  simp only [List.forIn_cons, Sem.run_bind, Sem.run_ite, hn', ne_eq, not_false_eq_true, if_true, rX, Result.andThen_ok, hr, Sem.run_pure]
                  simpa using hih
                · cases h
              · cases h
        · rw [hu] at h
          simp only at h
          cases hi : P.info? e with
          | none => rw [hi] at h; cases h
          | some i =>
            rw [hi] at h
            simp only at h
            cases hsz : Nat.ble (len * i.size) (P.cellsOf t) with
            | false => rw [hsz] at h; cases h
            | true =>
              rw [hsz] at h
              rw [bleN, decide_eq_true_eq] at hsz
              simp only at h
              have hs : P.cellsOf e = i.size := by simp [Program.cellsOf, hi]
              rw [Instr.checkKey]
              simp only [Sem.run_bind, run_underlying hu, Result.andThen_ok]
              simp only [Std.Legacy.Range.forIn_eq_forIn_range', Std.Legacy.Range.size, Nat.sub_zero, Nat.add_one_sub_one, Nat.div_one]
              have key : ∀ (m k : Nat), k + m ≤ len → ∀ l, flat.flatA (fun k => flat P n e (off + k * i.size)) m k = some l → has xs l →
                  (forIn (m := Sem) (List.range' k m) PUnit.unit fun j _ => do
                    let __do_lift ← sizeOf e
                    let __do_lift ← part e A (j * __do_lift)
                    Instr.checkKey em d e __do_lift
                    pure (ForInStep.yield PUnit.unit)).run P w = .ok PUnit.unit w := by
                intro m
                induction m with
                | zero => intro k _ l _ _; simp
                | succ m ih =>
                  intro k hk l h hl
                  simp only [flat.flatA] at h
                  split at h
                  · rename_i a b ha hb; cases h
                    have hla : has xs a := fun x hx => hl x (List.mem_append_left _ hx)
                    have hle : k * i.size + P.cellsOf e ≤ P.cellsOf t := by
                      rw [hs]
                      have : (k + 1) * i.size ≤ len * i.size := Nat.mul_le_mul_right _ (by omega)
                      rw [Nat.add_mul] at this; omega
                    obtain ⟨X', rX, qX⟩ := run_part_in (t := t) (fo := k * i.size) hx ha hA hle (fun hn => by
                      obtain ⟨_, q, e'⟩ := flat_cell ha hn
                      exact hla (off + k * i.size, q) (by rw [e']; simp))
                    have hr := IH e _ a ha d (by omega) hx X' qX hla w
                    have hsz' : (sizeOf e).run P w = .ok i.size w := by simp [sizeOf, run_info hi]
                    rw [List.range'_succ, List.forIn_cons]
                    simp only [Sem.run_bind, hsz', Result.andThen_ok, rX, hr, Sem.run_pure]
                    exact ih (k + 1) (by omega) b hb (fun x hx => hl x (List.mem_append_right _ hx))
                  · cases h
              have := key len 0 (by omega) l h hl
              simp at this ⊢; rw [this]; rfl
      · obtain ⟨i, hi⟩ := flat_info h
        have hcell := flat_cell h hag
        have hu : ∃ d, P.underlying t = some d ∧ ∀ ms, d ≠ .interface ms := by
          unfold flat at h
          split at h <;> first
            | (rename_i hu; exact ⟨_, hu, by simp⟩)
            | cases h
        obtain ⟨dd, hu, hni⟩ := hu
        exact check_cell hu hag hni em d X w
end

section
variable {G : Gp} {μ : Inj} {h : H} {w : World} {t : Tr V} {ρ : Operand → Value}

theorem inRow_mem : ∀ (l : List (Nat × Kd)) (n : Nat) (ks : List Kd), inRow l n = some ks → ∀ x ∈ l, n ≤ x.1 ∧ x.1 < n + ks.length
  | [], _, _, _, x, hx => by cases hx
  | (i, k) :: l, n, ks, h, x, hx => by
    simp only [inRow] at h
    split at h
    · rename_i hi; rw [beqN, decide_eq_true_eq] at hi; subst hi
      split at h
      · rename_i ks' hks; cases h
        rcases List.mem_cons.1 hx with rfl | hx
        · simp
        · have := inRow_mem l (i + 1) ks' hks x hx
          simp; omega
      · cases h
    · cases h

theorem fit_len : ∀ (ks : List Kd) (xs : List V), fitCells ks xs = true → ks.length ≤ xs.length
  | [], _, _ => by simp
  | k :: ks, [], h => by simp [fitCells] at h
  | k :: ks, c :: cs, h => by
    simp only [fitCells] at h
    split at h
    · have := fit_len ks cs h; simp; omega
    · cases h

/-- a key that serves: it is looked at without a fault -/
theorem keyOk_check {C : Ctx} {ty : TypeId} {ks : List Kd} {k : V} {c : Value} (hk : kinds C.P ty = some ks) (hx : VRel μ k c) (hok : keyOk C ty ks k = true) (em : Bool) (w : World) :
    (Instr.checkKey em 10000 ty c).run C.P w = .ok () w := by
  obtain ⟨l, hl, hr⟩ := kinds_spec hk
  unfold keyOk at hok
  split at hok
  · rename_i n hn
    split at hok
    · rename_i xs
      split at hok
      · obtain ⟨cx, rfl, hcx⟩ := hx
        have hag : AggT C.P ty := by
          unfold shp at hn
          split at hn
          · rename_i fs hu; exact .inl ⟨fs, hu⟩
          · rename_i a b hu; exact .inr ⟨a, b, hu⟩
          · cases hn
          · cases hn
        have hlen := fit_len ks xs hok
        exact check_flat em 8 ty 0 l hl 10000 (by omega) hcx _ (.inl ⟨hag, _, rfl, fun i _ => by simp⟩) (fun x hx => by
          have := inRow_mem l 0 ks hr x hx
          exact ⟨xs[x.1]'(by omega), by rw [nthL_eq]; simp⟩) w
      · cases hok
    · cases hok
  · rename_i hn
    have hag : ¬ AggT C.P ty := by
      unfold shp at hn
      rintro (⟨fs, hu⟩ | ⟨a, b, hu⟩)
      · rw [show und C ty = _ from hu] at hn; simp only at hn; split at hn <;> cases hn
      · rw [show und C ty = _ from hu] at hn; simp only at hn; split at hn <;> cases hn
    exact check_flat em 8 ty 0 l hl 10000 (by omega) (xs := [k]) (cx := [c]) (VRels.cons hx rfl) c (.inr ⟨hag, rfl⟩) (fun x hx' => by
      obtain ⟨_, q, rfl⟩ := flat_cell hl hag
      simp at hx'; subst hx'; exact ⟨k, rfl⟩) w
  · cases hok

theorem run_equal_cell {C : Ctx} {ty : TypeId} {k : Kd} (hk : kinds C.P ty = some [k]) (hag : ¬ AggT C.P ty) {x y : V} {a b : Value} (hx : VRel μ x a) (hy : VRel μ y b) {r : Bool}
    (he : eqCell k x y = some r) (w : World) : (Op.equal ty a b).run C.P w = .ok r w := by
  obtain ⟨l, hl, hr⟩ := kinds_spec hk
  refine equal_flat 8 ty 0 l hl 10000 (by omega) (xs := [x]) (ys := [y]) (cx := [a]) (cy := [b]) (VRels.cons hx rfl) (VRels.cons hy rfl) a b (.inr ⟨hag, rfl⟩) (.inr ⟨hag, rfl⟩) r ?_ w
  refine inRow_eqAt [x] [y] l 0 [k] r hr ?_
  simp only [List.drop_zero, eqCells, he]
  cases r <;> rfl

/-- finding a key -/
theorem findAsk_rel {C : Ctx} {ty : TypeId} {ks : List Kd} (hk : kinds C.P ty = some ks) {k : V} {c : Value} (hx : VRel μ k c) (hok : keyOk C ty ks k = true) :
    ∀ (es : List (V × V × Nat)) (cs : List MapEntry) (i : Nat) (r : Option (Nat × V × Nat)), ERels μ es cs → findK ks k es i = some r →
    ∃ q, (∀ w, (Instr.findAsking ty c cs i).run C.P w = .ok q w) ∧ (match r with
      | none => q = none
      | some (j, v, b) => ∃ d e, q = some (j, d) ∧ VRel μ v d ∧ i ≤ j ∧ cs[j - i]? = some e ∧ e.val = d ∧ e.born = b)
  | [], cs, i, r, he, hf => by
    cases he
    simp only [findK, Option.some.injEq] at hf; subst hf
    exact ⟨none, fun w => by simp [Instr.findAsking], rfl⟩
  | (x, v, b) :: es, cs, i, r, ⟨e, cs', ee, ⟨h1, h2, h3⟩, hs⟩, hf => by
    subst ee
    simp only [findK] at hf
    have heq : ∀ q, keyEq ks k x = some q → ∀ w, (Op.equal ty c e.key).run C.P w = .ok q w := by
      intro q hq w
      unfold keyOk at hok
      split at hok
      · rename_i n hn
        split at hok
        · rename_i xs
          obtain ⟨cx, rfl, hcx⟩ := hx
          have hag : AggT C.P ty := by
            unfold shp at hn
            split at hn
            · rename_i fs hu; exact .inl ⟨fs, hu⟩
            · rename_i a b hu; exact .inr ⟨a, b, hu⟩
            · cases hn
            · cases hn
          cases x with
          | agg ys =>
            obtain ⟨cy, e2, hcy⟩ := h1
            rw [e2]
            exact run_equal_agg hk hag hcx hcy hq w
          | _ =>
            simp only [keyEq] at hq
            split at hq
            · rename_i kd; cases kd <;> simp [eqCell] at hq
            · cases hq
        · cases hok
      · rename_i hn
        have hag : ¬ AggT C.P ty := by
          unfold shp at hn
          rintro (⟨fs, hu⟩ | ⟨a, b, hu⟩)
          · rw [show und C ty = _ from hu] at hn; simp only at hn; split at hn <;> cases hn
          · rw [show und C ty = _ from hu] at hn; simp only at hn; split at hn <;> cases hn
        split at hok
        · rename_i kd
          have hq' : eqCell kd k x = some q := by
            cases k <;> first
              | exact hq
              | (cases kd <;> simp [fitCell] at hok)
          exact run_equal_cell hk hag hx h1 hq' w
        · cases hok
      · cases hok
    split at hf
    · rename_i hq; cases hf
      refine ⟨some (i, e.val), fun w => by simp [Instr.findAsking, heq true hq], ?_⟩
      exact ⟨e.val, e, rfl, h2, Nat.le_refl _, by simp, rfl, h3.symm⟩
    · rename_i hq
      obtain ⟨q, hrun, hres⟩ := findAsk_rel hk hx hok es cs' (i + 1) r hs hf
      refine ⟨q, fun w => by simp [Instr.findAsking, heq false hq, hrun], ?_⟩
      cases r with
      | none => exact hres
      | some p =>
        obtain ⟨j, v', b'⟩ := p
        obtain ⟨d, e', hd, hv, hle, hat, h5, h6⟩ := hres
        refine ⟨d, e', hd, hv, by omega, ?_, h5, h6⟩
        rw [show j - i = (j - (i + 1)) + 1 by omega]
        simpa using hat
    · cases hf
end
end Go.AE
