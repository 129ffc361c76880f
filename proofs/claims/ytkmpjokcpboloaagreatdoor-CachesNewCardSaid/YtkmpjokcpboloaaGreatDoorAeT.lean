/-
  A part of the abstract evaluator's soundness: its operations agree with the model's. No conditions beyond the theorems' own.
-/
import Derived.Test.YtkmpjokcpboloaaGreatDoorAeS
import Derived.Laws.Append
set_option linter.unusedSimpArgs false
set_option linter.unusedVariables false
namespace Go.AE

section
variable {G : Gp} {μ : Inj} {h : H} {w : World} {t : Tr V} {ρ : Operand → Value}

/-- what is appended: a slice or a string, or so many zeros -/
def Apd (P : Program) (i : TypeInfo) (z : Value) (tx : TypeId) (x : Value) (n : Nat) (news : List Value) (w : World) : Prop :=
  ((∃ d, P.underlying tx = some d ∧ ∀ k, d ≠ .int k) ∧ (∀ w' : World, (Builtin.lenOf x).run P w' = .ok n w') ∧ ∀ k, (Builtin.firstCells i.size n x).run P { w with drawn := k } = .ok ⟨news⟩ { w with drawn := k }) ∨
  ((∃ k, P.underlying tx = some (.int k)) ∧ (∃ k, x = .int k n) ∧ n ≤ 1048576 ∧ n * i.bytes ≤ 281474976710656 ∧ news = replC n z.cells.toList ∧ z.cells.size = i.size ∧ i.size ≠ 0)

theorem run_app_room {P : Program} {ty tx oty e : TypeId} {rest : List TypeId} {i : TypeInfo} {z : Value} (ht : P.underlying ty = some (.slice e)) (hi : P.info? e = some i) (hz : (∃ k, P.underlying tx = some (.int k)) → i.zero = some z)
    {base : Option Addr} {sLen sCap n : Nat} {x : Value} {news : List Value} (hs : Apd P i z tx x n news w) (hroom : sLen + n ≤ sCap) {w' : World}
    (hst : ∀ a, base = some a → (storeCells (a.add (sLen * i.size)) news).run P w = .ok () w') (hno : base = none → w' = w) :
    (Builtin.append_ ⟨ty :: tx :: rest⟩ oty #[.slice base sLen sCap, x]).run P w = .ok (.slice base (sLen + n) sCap) w' := by
  rcases hs with ⟨⟨d, hd, hk⟩, hlen, hc⟩ | ⟨⟨k, hd⟩, ⟨k', rfl⟩, hn, hb, rfl, hzs, hz0⟩
  · have hc := hc w.drawn
    have hw : ({ w with drawn := w.drawn } : World) = w := rfl
    rw [hw] at hc
    have hzf : (match d with | .int _ => true | _ => false) = false := by cases d <;> first | rfl | exact absurd rfl (hk _)
    cases base with
    | none =>
      have := hno rfl; subst this
      simp [Builtin.append_, run_underlying ht, run_underlying hd, sizeOf, typeInfo, hi, hlen, hroom, hc, hzf]
    | some a =>
      have := hst a rfl
      simp [Builtin.append_, run_underlying ht, run_underlying hd, sizeOf, typeInfo, hi, hlen, hroom, hc, hzf, this]
  · have hz := hz ⟨k, hd⟩
    have hw1 : IntKind.i64.wrap (n : Int) = n := wrap_i64 (by omega) (by omega)
    have hneg : ¬ ((n : Int) < 0) := by omega
    have hbig : ¬ ((281474976710656 : Int) < (n : Int) * (i.bytes : Int)) := by
      have : ((n * i.bytes : Nat) : Int) ≤ 281474976710656 := by omega
      rw [Int.natCast_mul] at this; omega
    have hzv : ∀ w : World, (zeroValue e).run P w = .ok z w := fun w => by simp [zeroValue, typeInfo, hi, hz]
    have hzc : Builtin.zeroCells z.cells n = ⟨replC n z.cells.toList⟩ := zeroCells_eq _ _ (by rw [hzs]; exact hz0)
    by_cases h0 : n = 0
    · subst h0
      have hw0 : IntKind.i64.wrap 0 = 0 := wrap_i64 (by omega) (by omega)
      have hr0 : sLen ≤ sCap := by omega
      cases base with
      | none =>
        have := hno rfl; subst this
        simp [Builtin.append_, run_underlying ht, run_underlying hd, sizeOf, typeInfo, hi, asInt, asIntOf, hw0, hr0]
      | some a =>
        have := hst a rfl
        simp only [replC] at this
        simp [Builtin.append_, run_underlying ht, run_underlying hd, sizeOf, typeInfo, hi, asInt, asIntOf, hw0, hr0, this]
    · have hne : ¬ (n * i.size = 0) := by rw [Nat.mul_eq_zero]; omega
      cases base with
      | none =>
        have := hno rfl; subst this
        simp [Builtin.append_, run_underlying ht, run_underlying hd, sizeOf, typeInfo, hi, asInt, asIntOf, hw1, hneg, hbig, hroom, h0, hz0, hzv]
      | some a =>
        have := hst a rfl
        simp [Builtin.append_, run_underlying ht, run_underlying hd, sizeOf, typeInfo, hi, asInt, asIntOf, hw1, hneg, hbig, hroom, hne, hzv, hzc, this]

theorem run_app_grow {P : Program} {ty tx oty e : TypeId} {rest : List TypeId} {i : TypeInfo} {z : Value} (ht : P.underlying ty = some (.slice e)) (hi : P.info? e = some i) (hz : i.zero = some z)
    {base : Option Addr} {sLen sCap n : Nat} {x : Value} {news olds : List Value} (hs : Apd P i z tx x n news w) (hold : ∀ k, (Builtin.firstCells i.size sLen (.slice base sLen sCap)).run P { w with drawn := k } = .ok ⟨olds⟩ { w with drawn := k })
    (hg : sCap < sLen + n) (h63 : sLen + n ≤ 140737488355328) (hfit : (sLen + n) * i.bytes ≤ 140737488355328) (hz0 : z.cells.size ≠ 0) :
    ∃ c k, sLen + n ≤ c ∧ (Builtin.append_ ⟨ty :: tx :: rest⟩ oty #[.slice base sLen sCap, x]).run P w =
      .ok (.slice (some ⟨w.heap.size, 0, none⟩) (sLen + n) c) { w with drawn := k, heap := w.heap.push (.cells ⟨olds ++ (news ++ replC (c - (sLen + n)) z.cells.toList)⟩ e) } := by
  have hn : ¬ (sLen + n ≤ sCap) := by omega
  have h63' : ¬ (9223372036854775807 < ((sLen : Int) + (n : Int))) := by omega
  have hfit' := growslice_fits hg hfit
  have h48' : ¬ (281474976710656 < Builtin.nextslicecap (sLen + n) sCap * i.bytes) := by omega
  have hzv : ∀ w : World, (zeroValue e).run P w = .ok z w := fun w => by simp [zeroValue, typeInfo, hi, hz]
  have room : ∀ (b : Nat) (w : World), (askRoom b).run P w = .ok () w := fun b w => by unfold askRoom; split <;> simp [mark, Sem.run]
  refine ⟨(Question.appendCap (sLen + n) sCap e).cut (w.tape w.drawn (.appendCap (sLen + n) sCap e)), w.drawn + 1, by simp only [Question.cut]; omega, ?_⟩
  have hq : (Question.appendCap (sLen + n) sCap e).forced = false := rfl
  have ho : (Builtin.firstCells i.size sLen (.slice base sLen sCap)).run P w.drew = .ok ⟨olds⟩ w.drew := hold (w.drawn + 1)
  generalize hc : (Question.appendCap (sLen + n) sCap e).cut (w.tape w.drawn (.appendCap (sLen + n) sCap e)) = c at *
  have hch : (choose (.appendCap (sLen + n) sCap e)).run P w = .ok c { w with drawn := w.drawn + 1 } := by simp [choose, Sem.run, hq, hc]
  have hzr : Builtin.zeroCells z.cells (c - (sLen + n)) = ⟨replC (c - (sLen + n)) z.cells.toList⟩ := zeroCells_eq _ _ hz0
  rcases hs with ⟨⟨d, hd, hk⟩, hlen, hcc⟩ | ⟨⟨k, hd⟩, ⟨k', rfl⟩, hnn, hb, rfl, hzs, hz1⟩
  · have hcc : (Builtin.firstCells i.size n x).run P w.drew = .ok ⟨news⟩ w.drew := hcc (w.drawn + 1)
    have hzf : (match d with | .int _ => true | _ => false) = false := by cases d <;> first | rfl | exact absurd rfl (hk _)
    simp [Builtin.append_, run_underlying ht, run_underlying hd, sizeOf, typeInfo, hi, hlen, hn, h63', h48', hcc, hzf, hq, hc, room, ho, hzv, hzr, newRow]
    rfl
  · have hw1 : IntKind.i64.wrap (n : Int) = n := wrap_i64 (by omega) (by omega)
    have hneg : ¬ ((n : Int) < 0) := by omega
    have hbig : ¬ ((281474976710656 : Int) < (n : Int) * (i.bytes : Int)) := by
      have : ((n * i.bytes : Nat) : Int) ≤ 281474976710656 := by omega
      rw [Int.natCast_mul] at this; omega
    have hzc : Builtin.zeroCells z.cells n = ⟨replC n z.cells.toList⟩ := zeroCells_eq _ _ hz0
    by_cases h0 : n = 0
    · subst h0
      have hw0 : IntKind.i64.wrap 0 = 0 := wrap_i64 (by omega) (by omega)
      simp only [Nat.add_zero] at hn h63' h48' hq hc hzr
      have h63' : ¬ (9223372036854775807 < (sLen : Int)) := by omega
      simp [Builtin.append_, run_underlying ht, run_underlying hd, sizeOf, typeInfo, hi, asInt, asIntOf, hw0, hn, h63', h48', hq, hc, room, ho, hzv, hzr, newRow, replC]
      rfl
    · have hne : ¬ (n * i.size = 0) := by rw [Nat.mul_eq_zero]; omega
      simp [Builtin.append_, run_underlying ht, run_underlying hd, sizeOf, typeInfo, hi, asInt, asIntOf, hw1, hneg, hbig, hn, h63', h48', hne, hq, hc, room, ho, hzv, hzr, hzc, newRow]
      rfl

end
end Go.AE
