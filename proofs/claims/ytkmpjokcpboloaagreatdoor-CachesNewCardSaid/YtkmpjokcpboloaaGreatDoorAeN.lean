/-
  A part of the abstract evaluator's soundness: its operations agree with the model's. No conditions beyond the theorems' own.
-/
import Derived.Test.YtkmpjokcpboloaaGreatDoorAeM
import Derived.Lib.ConvBytes
set_option linter.unusedSimpArgs false
set_option linter.unusedVariables false
namespace Go.AE

section
variable {G : Gp} {μ : Inj} {h : H} {w : World} {t : Tr V} {ρ : Operand → Value}

def World.same (w w1 : World) : Prop := w1.heap = w.heap ∧ w1.os = w.os ∧ w1.output = w.output ∧ w1.tape = w.tape

/-- a program that makes one new block and gives a value of its address -/
def Makes (G : Gp) (μ : Inj) (w : World) (b : Pos) (s : Sem Value) (a : Al) : Prop :=
  ∃ w1 x l c, l.blk = w.heap.size ∧ World.same w w1 ∧ s.run G.C.P w = .ok c { w1 with heap := w.heap.push x } ∧
    ORel (μ.set b l) l a.o { w1 with heap := w.heap.push x } ∧ VRel (μ.set b l) (a.m.val b) c

theorem push_get (hp : Array Obj) (x : Obj) : (hp.push x)[hp.size]? = some x := by simp

/-- a row of cells, exactly -/
theorem cells_new {b : Pos} (hb : μ b = none) {cs : List V} {C : List Value} (hr : VRels μ cs C) (e : TypeId) (w1 : World) :
    ORel (μ.set b ⟨w.heap.size, 0, 0, 0⟩) ⟨w.heap.size, 0, 0, 0⟩ (.cells cs e none 0 false) { w1 with heap := w.heap.push (.cells ⟨C⟩ e) } :=
  ⟨⟨C⟩, 0, 0, [], C, [], push_get _ _, by simp, rfl, VRels.mono (Inj.le_set _ hb) _ _ hr, .inr ⟨fun i _ _ => by omega, .inr (.inl rfl)⟩, rfl, rfl⟩

theorem makes_row {b : Pos} (hb : μ b = none) {cs : List V} {C : Array Value} (hr : VRels μ cs C.toList) (e : TypeId) {s : Sem Value} {m : Mk} {f : Addr → Value}
    (hs : ∀ w : World, s.run G.C.P w = .ok (f ⟨w.heap.size, 0, none⟩) { w with heap := w.heap.push (.cells C e) })
    (hm : VRel (μ.set b ⟨w.heap.size, 0, 0, 0⟩) (m.val b) (f ⟨w.heap.size, 0, none⟩)) : Makes G μ w b s ⟨.cells cs e none 0 false, m⟩ :=
  ⟨w, _, ⟨w.heap.size, 0, 0, 0⟩, _, rfl, ⟨rfl, rfl, rfl, rfl⟩, hs w, cells_new hb hr e w, hm⟩

theorem ptr_new {b : Pos} {l : Loc} (h0 : l.base = 0) : VRel (μ.set b l) (Mk.ptr.val b) (.pointer (some ⟨l.blk, 0, none⟩)) := ⟨l, Inj.set_self _ _ _, by simp [h0]⟩

theorem box_rel {b : Pos} (hb : μ b = none) {e : TypeId} {v : V} {c : Value} (hv : VRel μ v c) {a : Al} (ha : box e (some v) = some a) : Makes G μ w b (Instr.box e c) a := by
  cases ha
  exact makes_row hb (C := c.cells) (V.cells_rel hv) e (f := fun a => .pointer (some a)) (fun w => by simp [Instr.box, newVar, newRow, newObj, Sem.run]) (ptr_new rfl)

theorem alloc_rel {b : Pos} (hb : μ b = none) {e : TypeId} {a : Al} (ha : box e (zeroV G.C e) = some a) : Makes G μ w b (Instr.alloc e true (.tuple #[])) a := by
  cases hz : zeroV G.C e with
  | none => rw [hz] at ha; cases ha
  | some z =>
    rw [hz] at ha; cases ha
    obtain ⟨i, zc, hi, hzc, hzr⟩ := zeroV_spec hz
    exact makes_row hb (C := zc.cells) (V.cells_rel (hzr μ)) e (f := fun a => .pointer (some a)) (fun w => by simp [Instr.alloc, run_zero hi hzc, newVar, newRow, newObj, Sem.run]) (ptr_new rfl)

/-! rows of equal elements -/
theorem repl_length (n : Nat) (z : List V) : (repl n z).length = n * z.length := by
  induction n with
  | zero => simp [repl]
  | succ n ih => simp [repl, ih, Nat.add_mul, Nat.add_comm]
def replC : Nat → List Value → List Value
  | 0, _ => []
  | n + 1, z => z ++ replC n z
theorem repl_rel {z : List V} {zc : List Value} (hr : VRels μ z zc) : ∀ n, VRels μ (repl n z) (replC n zc)
  | 0 => rfl
  | n + 1 => VRels.append hr (repl_rel hr n)
theorem replC_length (n : Nat) (z : List Value) : (replC n z).length = n * z.length := by
  induction n with
  | zero => simp [replC]
  | succ n ih => simp [replC, ih, Nat.add_mul, Nat.add_comm]
theorem replC_get (z : List Value) : ∀ (n i : Nat), i < n * z.length → (replC n z)[i]? = z[i % z.length]?
  | 0, i, h => by omega
  | n + 1, i, h => by
    simp only [replC]
    by_cases hlt : i < z.length
    · rw [List.getElem?_append_left hlt, Nat.mod_eq_of_lt hlt]
    · rw [List.getElem?_append_right (by omega), replC_get z n _ (by rw [Nat.add_mul] at h; omega)]
      congr 1
      rw [← Nat.mod_eq_sub_mod (by omega)]
theorem zeros_eq (z : Array Value) (n : Nat) (hz : z.size ≠ 0) : (Array.range (n * z.size)).map (z[· % z.size]!) = ⟨replC n z.toList⟩ := by
  apply Array.ext'
  apply List.ext_getElem?
  intro i
  simp only [Array.toList_map, Array.toList_range, List.getElem?_map]
  by_cases hi : i < n * z.size
  · rw [List.getElem?_range hi, replC_get _ _ _ (by simpa using hi)]
    have hlt : i % z.size < z.size := Nat.mod_lt _ (by omega)
    simp only [Option.map_some, Array.length_toList]
    rw [Array.getElem?_toList, Array.getElem?_eq_getElem hlt]
    simp [hlt]
  · rw [List.getElem?_eq_none (by simpa using hi), List.getElem?_eq_none (by rw [replC_length]; simpa using hi)]
    rfl

theorem slice_new {b : Pos} {l : Loc} (h0 : l.base = 0) (len cap : Nat) : VRel (μ.set b l) ((Mk.slice len (some cap)).val b) (.slice (some ⟨l.blk, 0, none⟩) len cap) :=
  ⟨l, cap, Inj.set_self _ _ _, by simp [h0], rfl⟩

theorem elemOf_spec {C : Ctx} {ty e : TypeId} (h : elemOf C ty = some e) : und C ty = some (.slice e) := by
  unfold elemOf at h; split at h
  · rename_i hu; cases h; exact hu
  · cases h

theorem opBuildSlice_rel {b : Pos} (hb : μ b = none) (hr : OR G.C μ t ρ) {ty : TypeId} {len : Nat} {parts : Array (Nat × Operand)} {a : Al}
    (ha : opBuildSlice G.C ty len parts.toList (opds G.C t (parts.toList.map (·.2))) = some a) : Makes G μ w b (Instr.buildSlice ty len (parts.map fun (i, x) => (i, ρ x))) a := by
  unfold opBuildSlice at ha
  split at ha
  · cases ha
  · rename_i e he
    have hu := elemOf_spec he
    split at ha
    · rename_i sz z vs hsz hz hvs
      obtain ⟨i, zc, hi, hzc, hzr⟩ := zeroV_spec hz
      obtain ⟨e1, e2⟩ := parts_rel hr hvs
      have hzz := V.cells_rel (hzr μ)
      split at ha
      · rename_i cs hle hf; cases ha
        rw [Bool.and_eq_true, bleN, decide_eq_true_eq, beqN, decide_eq_true_eq] at hle
        obtain ⟨hle, hzl⟩ := hle
        obtain ⟨l', hl', hr'⟩ := fill_rel (μ := μ) (place := placeA sz) (place' := fun i => some (i * sz, sz)) (fun i x hx => hx) e1 e2 (repl_rel hzz len) hf
        refine makes_row hb (C := ⟨l'⟩) hr' e (f := fun a => .slice (some a) len len) (fun w => ?_) (slice_new rfl len len)
        have hzs : zc.cells.size = sz := by rw [← hzl, hzz.length]; simp
        have hbig : ¬ (len * sz > 2 ^ 24) := by omega
        simp only [Instr.buildSlice, Sem.run_bind, run_underlying' hu, Result.andThen_ok, run_size hsz, hbig, if_false, Sem.run_pure]
        by_cases h0 : len * sz = 0
        · have : replC len zc.cells.toList = [] := by
            apply List.eq_nil_of_length_eq_zero; rw [replC_length]; simpa [hzs] using h0
          rw [this] at hl'
          rw [if_pos h0]
          have er : ∀ f : Nat → Value, (Array.range 0).map f = ⟨[]⟩ := fun f => by simp
          have hl2 : Instr.fill (fun i => some (i * sz, sz)) ⟨[]⟩ (Array.map (fun x => (x.fst, ρ x.snd)) parts).toList = some ⟨l'⟩ := hl'
          simp only [Sem.run_pure, Result.andThen_ok, Sem.run_bind, h0, er]
          first | rw [hl'] | rw [hl2]
          simp [newRow, newObj, Sem.run]
        · rw [if_neg h0]
          have hz0 : zc.cells.size ≠ 0 := by rw [hzs]; intro hh; rw [hh] at h0; simp at h0
          simp only [Sem.run_bind, run_zero hi hzc, Result.andThen_ok, Sem.run_pure]
          rw [← hzs, zeros_eq _ _ hz0, hzs, hl']
          simp [newRow, newObj, Sem.run]
      · cases ha
    · cases ha

theorem opMap_rel {b : Pos} (hb : μ b = none) (hr : OR G.C μ t ρ) {ty : TypeId} {r : Option Operand} {a : Al} (ha : opMap G.C t ty r = some a) : Makes G μ w b (Instr.makeMap ty (r.map ρ)) a := by
  have fin : ∀ s : Sem Value, (∀ w : World, s.run G.C.P w = .ok (.map (some w.heap.size)) { w with heap := w.heap.push (.map #[] 0) }) → Makes G μ w b s ⟨.map [] 0, .map⟩ := fun s hs =>
    ⟨w, _, ⟨w.heap.size, 0, 0, 0⟩, _, rfl, ⟨rfl, rfl, rfl, rfl⟩, hs w, ⟨[], push_get _ _, rfl⟩, ⟨_, Inj.set_self _ _ _, rfl⟩⟩
  unfold opMap at ha
  split at ha
  · rename_i k e hu
    split at ha
    · cases ha; exact fin _ fun w => by simp [Instr.makeMap, newObj, Sem.run]
    · rename_i x
      split at ha
      · rename_i kk n hx; cases ha
        have e : ρ x = .int kk n := hr _ _ hx
        exact fin _ fun w => by simp [Instr.makeMap, newObj, Sem.run, run_underlying' hu, e, asInt, asIntOf]
      · cases ha
  · cases ha

theorem opChan_rel {b : Pos} (hb : μ b = none) {ty : TypeId} {x : V} {c : Value} (hx : VRel μ x c) {a : Al} (ha : opChan G.C ty (some x) = some a) : Makes G μ w b (Instr.makeChan ty c) a := by
  unfold opChan at ha
  split at ha
  · rename_i k n e; cases e
    cases hx
    split at ha
    · rename_i d e m hu hn
      have := natI_eq hn; subst this
      split at ha
      · rename_i i hi
        split at ha
        · rename_i hle
          rw [Bool.and_eq_true, bleN, bleN, decide_eq_true_eq, decide_eq_true_eq] at hle
          cases ha
          have hi' : G.C.P.info? e = some i := hi
          refine ⟨w, _, ⟨w.heap.size, 0, 0, 0⟩, _, rfl, ⟨rfl, rfl, rfl, rfl⟩, ?_, ⟨[], push_get _ _, rfl⟩, ⟨_, Inj.set_self _ _ _, rfl⟩⟩
          simp only [Instr.makeChan, asInt, asIntOf, Sem.run_bind, Sem.run_pure, Result.andThen_ok, run_underlying' hu, run_info hi']
          have hmul : (i.bytes : Int) * (m : Int) ≤ ((1048576 : Nat) : Int) := by rw [← Int.natCast_mul]; exact Int.ofNat_le.2 hle.1
          have hmax : IntKind.i64.max = 9223372036854775807 := by decide
          rw [if_neg (by
            rw [hmax, not_or, not_or]
            exact ⟨by omega, by omega, by omega⟩)]
          simp [newObj, Sem.run]
        · cases ha
      · cases ha
    · cases ha
  · cases ha

theorem opMkSl_rel {b : Pos} (hb : μ b = none) {ty : TypeId} {x y : V} {c d : Value} (hx : VRel μ x c) (hy : VRel μ y d) {a : Al} (ha : opMkSl G.C ty (some x) (some y) = some a) :
    Makes G μ w b (Instr.makeSlice ty c d) a := by
  unfold opMkSl at ha
  split at ha
  · cases ha
  · rename_i e he
    have hu := elemOf_spec he
    split at ha
    · rename_i z i _ l _ cc hz hi e1 e2; cases e1; cases e2
      cases hx; cases hy
      obtain ⟨i', zc, hi', hzc, hzr⟩ := zeroV_spec hz
      have hi2 : G.C.P.info? e = some i := hi
      rw [hi2] at hi'; cases hi'
      have hzz := V.cells_rel (hzr μ)
      split at ha
      · rename_i l' c' hl hc
        have := natI_eq hl; subst this
        have := natI_eq hc; subst this
        split at ha
        · rename_i hle
          rw [Bool.and_eq_true, Bool.and_eq_true, Bool.and_eq_true, bleN, bleN, bleN, beqN, decide_eq_true_eq, decide_eq_true_eq, decide_eq_true_eq, decide_eq_true_eq] at hle
          obtain ⟨⟨⟨h1, h2⟩, h3⟩, h4⟩ := hle
          cases ha
          refine makes_row hb (C := ⟨replC c' zc.cells.toList⟩) (repl_rel hzz c') e (f := fun a => .slice (some a) l' c') (fun w => ?_) (slice_new rfl l' c')
          have hzs : zc.cells.size = i.size := by rw [← h4, hzz.length]; simp
          have w1 : IntKind.i64.wrap (l' : Int) = l' := wrap_i64 (by omega) (by omega)
          have w2 : IntKind.i64.wrap (c' : Int) = c' := wrap_i64 (by omega) (by omega)
          have hmul : (i.bytes : Int) * (c' : Int) ≤ ((1099511627776 : Nat) : Int) := by rw [← Int.natCast_mul]; exact Int.ofNat_le.2 h3
          have hsz : (sizeOf e).run G.C.P w = .ok i.size w := by simp [sizeOf, run_info hi2]
          have nt : ((decide ((c' : Int) < 0)) || decide ((i.bytes : Int) * (c' : Int) > 2 ^ 48)) = false := by
            rw [Bool.or_eq_false_iff, decide_eq_false_iff_not, decide_eq_false_iff_not]; constructor <;> omega
          unfold Instr.makeSlice
          simp only [Sem.run_bind, run_underlying' hu, Result.andThen_ok, asInt, asIntOf, Sem.run_pure, run_info hi2, w1, w2]
          simp only [nt, Bool.false_or]
          rw [if_neg (by
            rw [Bool.or_eq_true, decide_eq_true_eq, decide_eq_true_eq, not_or]; constructor <;> omega)]
          have room : (askRoom (c' * i.bytes)).run G.C.P w = .ok () w := by
            unfold askRoom; split <;> simp [mark, Sem.run]
          simp only [Int.toNat_natCast]
          by_cases h0 : c' * i.size = 0
          · have : replC c' zc.cells.toList = [] := by
              apply List.eq_nil_of_length_eq_zero; rw [replC_length]; simpa [hzs] using h0
            have er : ∀ f : Nat → Value, (Array.range 0).map f = ⟨[]⟩ := fun f => by simp
            rw [this]
            simp only [Sem.run_bind, room, hsz, Result.andThen_ok, h0, if_true, Sem.run_pure, er]
            simp [newRow, newObj, Sem.run]
          · have hz0 : zc.cells.size ≠ 0 := by rw [hzs]; intro hh; rw [hh] at h0; simp at h0
            simp only [Sem.run_bind, room, hsz, Result.andThen_ok, h0, if_false, run_zero hi2 hzc, Sem.run_pure]
            rw [← hzs, zeros_eq _ _ hz0]
            simp [newRow, newObj, Sem.run]
        · cases ha
      · cases ha
    · cases ha

theorem opBytes_rel {b : Pos} (hb : μ b = none) {src dst e : TypeId} (hs : und G.C src = some .string) (hd : und G.C dst = some (.slice e)) (he : und G.C e = some (.int .u8)) {x : V} {c : Value}
    (hx : VRel μ x c) {a : Al} (ha : opBytes e (some x) = some a) : Makes G μ w b (convert src dst c) a := by
  unfold opBytes at ha
  split at ha
  · rename_i s e1; cases e1; cases ha
    cases hx
    let cap := grownCap w s.size 0 e
    have hcap : s.size ≤ cap := by simp only [cap, grownCap, Question.cut]; omega
    let C : Array Value := Lib.bytesCells w e s
    have hC : C.size = cap := by simp [C, Lib.bytesCells]; have : s.data.size = s.size := rfl; omega
    let l : Loc := ⟨w.heap.size, 0, cap, 1⟩
    have hw : Lib.bytesWorld w e s = { w with drawn := w.drawn + 1, heap := w.heap.push (.cells C e (C.size, C.size + 1)) } := by
      have hh : (Lib.bytesWorld w e s).heap = w.heap.push (.cells C e (C.size, C.size + 1)) := by
        apply Array.ext_getElem?
        intro j
        rcases Nat.lt_trichotomy j w.heap.size with hj | rfl | hj
        · rw [Lib.bytesWorld_at_old _ _ _ _ hj, Array.getElem?_push_lt hj, Array.getElem?_eq_getElem hj]
        · rw [Lib.bytesWorld_at_new, push_get]
        · rw [Array.getElem?_eq_none (by rw [Lib.bytesWorld_size]; omega), Array.getElem?_eq_none (by simp; omega)]
      show (⟨(Lib.bytesWorld w e s).heap, _, _, _, _⟩ : World) = _
      rw [hh]
      rfl
    refine ⟨{ w with drawn := w.drawn + 1 }, .cells C e (C.size, C.size + 1), l, .slice (some ⟨w.heap.size, 0, none⟩) s.size cap, rfl, ⟨rfl, rfl, rfl, rfl⟩, ?_, ?_, ?_⟩
    · rw [Lib.run_convert_string_bytes w src dst e s hs hd he, hw]
    · refine ⟨C, C.size, C.size + 1, [], s.data.toList.map (fun b => Value.int .u8 b.toNat), List.replicate (cap - s.size) (.int .u8 0), push_get _ _, by simp [C, Lib.bytesCells, cap], rfl, ?_, .inr ⟨fun i _ hi => by simp [l] at hi ⊢; omega, .inl rfl⟩, trivial⟩
      refine VRels.mono (Inj.le_set _ hb) _ _ ?_
      generalize s.data.toList = bs
      induction bs with
      | nil => rfl
      | cons b bs ih => exact VRels.cons rfl ih
    · exact ⟨l, cap, Inj.set_self _ _ _, rfl, by simp [l], hcap, 0, by simp [l], by simp [l]⟩
  · cases ha
end
end Go.AE
