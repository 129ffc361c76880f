/-
  A part of the abstract evaluator's soundness: its operations agree with the model's. No conditions beyond the theorems' own.
-/
import Derived.Test.YtkmpjokcpboloaaGreatDoorAeY
import Derived.Laws.Externs
set_option linter.unusedSimpArgs false
set_option linter.unusedVariables false
namespace Go.AE

section
variable {G : Gp} {μ : Inj} {h : H} {w : World} {t : Tr V} {ρ : Operand → Value}

/-! functions without a body -/
theorem eqI_byte (x : UInt8) (c : Int) : eqI (.ofNat x.toNat) (.ofNat (c.toNat % 256)) = (x == c.toNat.toUInt8) := by
  have : c.toNat.toUInt8.toNat = c.toNat % 256 := by simp
  rw [← this]
  show Nat.beq _ _ = _
  rw [Bool.eq_iff_iff, Nat.beq_eq, beq_iff_eq]
  exact UInt8.toNat_inj

theorem idxByte_eq (c : Int) : ∀ (l : List UInt8) (i : Nat), idxByte (.ofNat (c.toNat % 256)) l i = if Lib.indexByte l c.toNat.toUInt8 = -1 then -1 else Lib.indexByte l c.toNat.toUInt8 + i
  | [], i => by simp [idxByte, Lib.indexByte]
  | x :: l, i => by
    have ih := idxByte_eq c l (i + 1)
    have hge := Lib.indexByte_ge l c.toNat.toUInt8
    unfold idxByte
    rw [eqI_byte]
    unfold Lib.indexByte
    by_cases hx : (x == c.toNat.toUInt8) = true
    · simp [hx]
    · rw [Bool.not_eq_true] at hx
      simp only [hx, Bool.false_eq_true, if_false]
      rw [ih]
      by_cases h1 : Lib.indexByte l c.toNat.toUInt8 = -1
      · simp [h1]
      · simp only [h1, if_false, beq_iff_eq]
        rw [if_neg (by omega)]
        omega

theorem cntByte_eq (c : Int) : ∀ (l : List UInt8) (i : Nat), cntByte (.ofNat (c.toNat % 256)) l i = Lib.countByte l c.toNat.toUInt8 + i
  | [], i => by simp [cntByte, Lib.countByte]
  | x :: l, i => by
    unfold cntByte
    rw [eqI_byte]
    by_cases hx : (x == c.toNat.toUInt8) = true
    · simp only [hx, cntByte_eq c l, Lib.countByte, List.count_cons, if_true]; omega
    · rw [Bool.not_eq_true] at hx
      simp only [hx, cntByte_eq c l, Lib.countByte, List.count_cons, Bool.false_eq_true, if_false, Nat.add_zero]

theorem digits_spec : ∀ (n t : Nat) (acc : Array Value), ∃ l : List Value, (Extern.BytealgMakeNoZero.digits n t acc) = ⟨acc.toList ++ l⟩ ∧ l.length = n ∧ ∀ x ∈ l, ∃ k m, x = .int k m
  | 0, t, acc => ⟨[], by simp [Extern.BytealgMakeNoZero.digits], rfl, by simp⟩
  | n + 1, t, acc => by
    obtain ⟨l, h1, h2, h3⟩ := digits_spec n (t / 256) (acc.push (.int .u8 (Int.ofNat (t % 256))))
    refine ⟨.int .u8 (Int.ofNat (t % 256)) :: l, by simp only [Extern.BytealgMakeNoZero.digits, h1]; simp, by simp [h2], ?_⟩
    intro x hx
    simp only [List.mem_cons] at hx
    rcases hx with rfl | hx
    · exact ⟨_, _, rfl⟩
    · exact h3 x hx

theorem junks : ∀ (n : Nat) (l : List Value), (∀ x ∈ l, ∃ k m, x = Value.int k m) → l.length = n → VRels μ (repl n [.junk]) l
  | 0, l, _, hl => by cases l with | nil => rfl | cons _ _ => cases hl
  | n + 1, l, hj, hl => by
    cases l with
    | nil => cases hl
    | cons x l => exact VRels.cons (hj x (by simp)) (junks n l (fun y hy => hj y (by simp [hy])) (by simpa using hl))

theorem mem_take {α : Type} {n : Nat} {l : List α} {x : α} (h : x ∈ l.take n) : x ∈ l := List.mem_of_mem_take h

theorem makeNoZero_def (ps rs : Array TypeId) (n : Int) : Extern.BytealgMakeNoZero.makeNoZero ps rs #[.int .i64 n] = (do
    let some t := rs[0]? | stuck "bytealg.MakeNoZero: no result type"
    let .slice elem ← underlying t | stuck "bytealg.MakeNoZero: slice type expected"
    if n < 0 || n > 2 ^ 48 then runtimePanic (.error "makeslice: len out of range")
    let cap ← choose (.appendCap n.toNat 0 elem)
    askRoom cap
    let bytes ← choose (.extern "internal/bytealg.MakeNoZero.bytes" 0)
    let a ← newRow elem (Extern.BytealgMakeNoZero.digits cap bytes #[])
    pure (.slice (some a) n.toNat cap)) := rfl

theorem extV_rel {fr : Frame} {cs : List Frame} (s : Sim G μ h w) {f : FuncId} {x : Ext} (hx : ExtOk G.C f x) {vs : List V} {args : List Value} (hv : VRels μ vs args) :
    (extV h x vs).any (Acts G fr cs h.nx μ w (callFunc f ⟨args⟩)) := by
  obtain ⟨fn, hf, hname, hb, hn, hx⟩ := hx
  have key : ∀ {e : Array Value → Sem Value} {v : V} {h' : H}, Extern.find fn = some e → GivesV G h.nx μ w (e ⟨args⟩) v h' → Acts G fr cs h.nx μ w (callFunc f ⟨args⟩) v h' := by
    intro e v h' he g
    obtain ⟨μ', w', c, h1, h2, h3, h4, h5⟩ := g
    have hrun := run_callFunc_extern hf hname (by rw [hb]; rfl) hn he ⟨args⟩ w
    rw [h5] at hrun
    exact Gives.acts ⟨μ', w', c, _, h1, h2, h3, h4, hrun, .inl rfl⟩
  unfold extV
  split
  · split
    · obtain ⟨c, cs, rfl, hc, hcs⟩ := hv
      cases hcs
      exact key hx (GivesV.pure s (Nat.le_refl _) hc rfl)
    · trivial
  · rename_i e
    obtain ⟨hx, rt, hrt, hu⟩ := hx
    split
    · rename_i n
      obtain ⟨c, cs, rfl, hc, hcs⟩ := hv
      cases hcs
      have hc' : c = .int .i64 n := hc
      subst hc'
      split
      · rename_i m hm
        obtain rfl : n = (m : Int) := by
          cases n with
          | ofNat q => simp only [natI, Option.some.injEq] at hm; subst hm; rfl
          | negSucc q => simp [natI] at hm
        split
        · rename_i hle
          rw [bleN, decide_eq_true_eq] at hle
          refine key hx ?_
          generalize hq : Question.appendCap m 0 e = q
          have hqf : q.forced = false := by rw [← hq]; rfl
          have hcut : ∃ r, q.cut (w.tape w.drawn q) = m + r := by rw [← hq]; exact ⟨_, rfl⟩
          obtain ⟨r, hr⟩ := hcut
          obtain ⟨l, hl1, hl2, hl3⟩ := digits_spec (m + r) ((Question.extern "internal/bytealg.MakeNoZero.bytes" 0).cut (w.tape (w.drawn + 1) (.extern "internal/bytealg.MakeNoZero.bytes" 0))) #[]
          have hsplit : l.take m ++ l.drop m = l := List.take_append_drop m l
          refine grown_rel (k := w.drawn + 2) (xs := l.take m) (post := l.drop m) (c := m + r) s (Nat.one_pos) (junks _ _ (fun x hx => hl3 x (mem_take hx)) (by rw [List.length_take]; omega)) (by rw [List.length_take]; omega) (by omega) (by rw [List.length_drop]; omega) 0 ?_
          rw [hsplit]
          have hneg : ¬ ((m : Int) < 0 ∨ (m : Int) > 2 ^ 48) := by omega
          have hroom : ∀ (k : Nat) (w : World), (askRoom k).run G.C.P w = .ok () w := by
            intro k w; unfold askRoom; split <;> simp [mark, Sem.run]
          simp only [makeNoZero_def, hrt, Sem.run_bind]
          have hund : (underlying rt).run G.C.P w = .ok (.slice e) w := run_underlying hu w
          simp only [hund, Result.andThen_ok, pure_bind]
          simp only [Int.toNat_natCast, hq]
          have h1 : (choose q).run G.C.P w = .ok (m + r) { w with drawn := w.drawn + 1 } := by simp [choose, Sem.run, hqf, hr]
          have hcond : ((decide ((m : Int) < 0) || decide ((m : Int) > 2 ^ 48)) = true) = False := by simp; omega
          simp only [hcond, if_false, Sem.run_bind, h1, Result.andThen_ok, hroom]
          have h2 : (choose (.extern "internal/bytealg.MakeNoZero.bytes" 0)).run G.C.P { w with drawn := w.drawn + 1 } = .ok ((Question.extern "internal/bytealg.MakeNoZero.bytes" 0).cut (w.tape (w.drawn + 1) (.extern "internal/bytealg.MakeNoZero.bytes" 0))) { w with drawn := w.drawn + 2 } := by
            rfl
          simp only [h2, Result.andThen_ok, hl1]
          simp [newRow, newObj, Sem.run]
        · trivial
      · trivial
    · trivial
  · split
    · obtain ⟨c, cs, rfl, hc, d, ds, rfl, hd, hds⟩ := hv
      cases hds
      cases hc; cases hd
      refine key hx (GivesV.pure s (Nat.le_refl _) ?_ (Lib.run_indexByteString _ _ _))
      rw [idxByte_eq]
      show _ = _
      split
      · rename_i e; rw [e]
      · simp
    · trivial
  · split
    · obtain ⟨c, cs, rfl, hc, d, ds, rfl, hd, hds⟩ := hv
      cases hds
      cases hc; cases hd
      refine key hx (GivesV.pure s (Nat.le_refl _) ?_ (Lib.run_countString _ _ _))
      rw [cntByte_eq]
      rfl
    · trivial
end
end Go.AE
