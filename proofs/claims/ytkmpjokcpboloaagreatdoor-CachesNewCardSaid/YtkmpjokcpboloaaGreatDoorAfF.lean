/-
  A part of the abstract evaluator's soundness: its operations agree with the model's. No conditions beyond the theorems' own.
-/
import Derived.Test.YtkmpjokcpboloaaGreatDoorAfE
set_option linter.unusedSimpArgs false
set_option linter.unusedVariables false
namespace Go.AE

/-! what the checks of a drawn region say -/
structure DR (C : Ctx) (n : Nat) (ops : Array Oper) (L : List COp) : Prop where
  cop : ∀ c ∈ L, ∃ o, ops[c.i]? = some o ∧ compG ops.toList o.guard = some c.g ∧ compD n o.dst = some c.d ∧ c.k = compK C o.op
  all : ∀ i, i < ops.size → ∃ c ∈ L, c.i = i
  ord : L.Pairwise fun c c2 => c.bef.testBit c2.i = false ∧ c.i ≠ c2.i
  back : ∀ i o, ops[i]? = some o → ∀ e ∈ o.after, Region.binds .any e = true → e.on < i
  closed : ∀ c ∈ L, ∀ o, ops[c.i]? = some o → ∀ j, c.bef.testBit j = true → ∃ e ∈ o.after, Region.binds .any e = true ∧ (j = e.on ∨ ∃ c2 ∈ L, c2.i = e.on ∧ c2.bef.testBit j = true)
  once : ∀ c ∈ L, ∀ c2 ∈ L, ∀ p, c.d = some p → c2.d = some p → c.i = c2.i
  look : ∀ c ∈ L, ∀ c2 ∈ L, ∀ o, ops[c.i]? = some o → ∀ d ∈ looks ops.toList o, c2.d = some (nm d) → c.i ≠ c2.i ∧ (c.bef.testBit c2.i = true ∨ (isEf c2.k = true ∧ c2.bef.testBit c.i = true))
  chn : chain L none = true
  sel : ∀ (i : Nat) (o : Oper), ops[i]? = some o → ∀ cs b, o.op ≠ .select cs b

def bs (ops : Array Oper) (i : Nat) : Nat := (Region.before ops).toList.getD i 0

theorem compOps_mem {C : Ctx} {n : Nat} {ops : List Oper} : ∀ {L : List (Oper × Nat × Nat)} {l : List COp}, compOps C n ops L = some l → ∀ c ∈ l, ∃ o, (o, c.i, c.bef) ∈ L ∧ compG ops o.guard = some c.g ∧ compD n o.dst = some c.d ∧ c.k = compK C o.op
  | [], l, h, c, hc => by simp only [compOps, Option.some.injEq] at h; subst h; cases hc
  | (o, i, b) :: L, l, h, c, hc => by
    simp only [compOps] at h
    split at h
    · rename_i g d l' hg hd hl
      cases h
      cases hc with
      | head => exact ⟨o, by simp, hg, hd, rfl⟩
      | tail _ hc =>
        obtain ⟨o', h1, h2⟩ := compOps_mem hl c hc
        exact ⟨o', by simp [h1], h2⟩
    · cases h

theorem idxd_mem {ops : Array Oper} {o : Oper} {i b : Nat} (h : (o, i, b) ∈ idxd ops) : ops[i]? = some o ∧ b = bs ops i := by
  unfold idxd at h
  obtain ⟨⟨⟨o', i'⟩, b'⟩, hm, he⟩ := List.mem_map.1 h
  simp only [Prod.mk.injEq] at he
  obtain ⟨rfl, rfl, rfl⟩ := he
  obtain ⟨p, hp⟩ := List.mem_iff_getElem?.1 hm
  rw [List.getElem?_zip_eq_some] at hp
  obtain ⟨h1, h2⟩ := hp
  simp only [List.getElem?_zipIdx, Option.map_eq_some_iff] at h1
  obtain ⟨x, hx, he⟩ := h1
  simp only [Nat.zero_add, Prod.mk.injEq] at he
  obtain ⟨rfl, rfl⟩ := he
  refine ⟨by simpa using hx, ?_⟩
  unfold bs
  rw [List.getD, h2]; rfl

theorem before_size (ops : Array Oper) : (Region.before ops).toList.length = ops.size := by
  rw [Array.length_toList]
  unfold Region.before
  rw [← Array.foldl_toList]
  have : ∀ (l : List Oper) (acc : Array Nat), (l.foldl (fun acc o => acc.push (o.after.foldl (fun s e => if Region.binds .any e then s ||| 2 ^ e.on ||| acc.getD e.on 0 else s) 0)) acc).size = acc.size + l.length := by
    intro l
    induction l with
    | nil => intro acc; rfl
    | cons o l ih => intro acc; rw [List.foldl_cons, ih]; simp; omega
  rw [this]; simp

theorem idxd_all {ops : Array Oper} : (idxd ops).map (·.2.1) = List.range ops.size := by
  unfold idxd
  have e1 : ((ops.toList.zipIdx.zip (Region.before ops).toList).map fun (x : (Oper × Nat) × Nat) => match x with | ((o, i), b) => (o, i, b)).map (·.2.1) = ((ops.toList.zipIdx.zip (Region.before ops).toList).map Prod.fst).map Prod.snd := by
    rw [List.map_map, List.map_map]
    rfl
  refine e1.trans ?_
  rw [List.map_fst_zip (by rw [before_size]; simp), List.zipIdx_map_snd, List.range_eq_range']
  simp

theorem early_mem {effs : List Nat} {cs : List COp} {k : Nat} {c : COp} (h : c ∈ early effs cs k) : c ∈ cs := by
  unfold early at h
  exact (List.mem_filter.1 h).1
theorem sorted_mem {effs : List Nat} {cs : List COp} : ∀ {es : List COp} {k : Nat} {c : COp}, (∀ x ∈ es, x ∈ cs) → c ∈ sorted effs cs es k → c ∈ cs
  | [], k, c, _, h => early_mem h
  | e :: es, k, c, hes, h => by
    simp only [sorted, List.mem_append, List.mem_cons] at h
    rcases h with h | rfl | h
    · exact early_mem h
    · exact hes _ (by simp)
    · exact sorted_mem (fun x hx => hes x (by simp [hx])) h
theorem asap_mem {l : List COp} {c : COp} (h : c ∈ asap l) : c ∈ l := sorted_mem (fun x hx => (List.mem_filter.1 hx).1) h

theorem ordered_spec : ∀ {l : List COp}, ordered l = true → l.Pairwise fun c c2 => c.bef.testBit c2.i = false ∧ c.i ≠ c2.i
  | [], _ => List.Pairwise.nil
  | c :: l, h => by
    simp only [ordered, Bool.and_eq_true, List.all_eq_true] at h
    refine List.Pairwise.cons (fun c2 hc2 => ?_) (ordered_spec h.2)
    have := h.1 c2 hc2
    simp only [Bool.not_eq_true'] at this
    exact ⟨this.1, fun e => by rw [e] at this; have := this.2; rw [Nat.beq_refl] at this; cases this⟩

theorem bitsOf_spec (f : List Nat) : ∀ (l : List Edge) (s j : Nat), (bitsOf f l s).testBit j = true → s.testBit j = true ∨ ∃ e ∈ l, Region.binds .any e = true ∧ (j = e.on ∨ (f.getD e.on 0).testBit j = true)
  | [], s, j, h => .inl h
  | e :: l, s, j, h => by
    simp only [bitsOf] at h
    rcases bitsOf_spec f l _ j h with h | ⟨e', h1, h2⟩
    · split at h
      · rename_i hb
        rw [Nat.testBit_or, Nat.testBit_or, Bool.or_eq_true, Bool.or_eq_true] at h
        rcases h with h | h | h
        · exact .inl h
        · rw [Nat.testBit_two_pow] at h
          exact .inr ⟨e, by simp, hb, .inl (by simpa [eq_comm] using h)⟩
        · exact .inr ⟨e, by simp, hb, .inr h⟩
      · exact .inl h
    · exact .inr ⟨e', by simp [h1], h2⟩

theorem nodup_fst : ∀ {ws : List (Nat × Nat)} {d i j : Nat}, (ws.map (·.1)).Nodup → (d, i) ∈ ws → (d, j) ∈ ws → i = j
  | [], _, _, _, _, h, _ => by cases h
  | (x, y) :: ws, d, i, j, hn, h1, h2 => by
    rw [List.map_cons, List.nodup_cons] at hn
    cases h1 with
    | head =>
      cases h2 with
      | head => rfl
      | tail _ h2 => exact (hn.1 (List.mem_map.2 ⟨_, h2, rfl⟩)).elim
    | tail _ h1 =>
      cases h2 with
      | head => exact (hn.1 (List.mem_map.2 ⟨_, h1, rfl⟩)).elim
      | tail _ h2 => exact nodup_fst hn.2 h1 h2

theorem compD_some {n : Nat} {dst : Option Tmp} {d : Nat} (h : compD n dst = some (some (nm d))) : dst = some d := by
  cases dst with
  | none => simp [compD] at h
  | some x =>
    simp only [compD] at h
    split at h
    · simp only [Option.some.injEq] at h; rw [nm_inj h]
    · cases h
theorem compD_any {n : Nat} {dst : Option Tmp} {p : Pos} (h : compD n dst = some (some p)) : ∃ d, p = nm d ∧ dst = some d := by
  cases dst with
  | none => simp [compD] at h
  | some x =>
    simp only [compD] at h
    split at h
    · simp only [Option.some.injEq] at h; exact ⟨x, h.symm, rfl⟩
    · cases h

theorem DR.of {C : Ctx} {n : Nat} {ops : Array Oper} {l : List COp} (hl : compOps C n ops.toList (idxd ops) = some l) (hd : drawnOk ops.toList (Region.before ops).toList (asap l) = true) : DR C n ops (asap l) := by
  simp only [drawnOk, Bool.and_eq_true] at hd
  obtain ⟨⟨⟨⟨⟨h1, h2⟩, h3⟩, h4⟩, h5⟩, h6⟩ := hd
  have mem : ∀ c ∈ asap l, ∃ o, ops[c.i]? = some o ∧ c.bef = bs ops c.i ∧ compG ops.toList o.guard = some c.g ∧ compD n o.dst = some c.d ∧ c.k = compK C o.op := by
    intro c hc
    obtain ⟨o, ho, h⟩ := compOps_mem hl c (asap_mem hc)
    obtain ⟨ho, hb⟩ := idxd_mem ho
    exact ⟨o, ho, hb, h⟩
  have hall : ∀ i, i < ops.size → ∃ c ∈ asap l, c.i = i := by
    intro i hi
    simp only [covers, List.all_eq_true, List.mem_range, List.any_eq_true] at h4
    obtain ⟨c, hc, he⟩ := h4 i (by simpa using hi)
    exact ⟨c, hc, Nat.eq_of_beq_eq_true he⟩
  have hzip : ∀ (i : Nat) (o : Oper), ops[i]? = some o → (o, i) ∈ ops.toList.zipIdx := by
    intro i o ho
    rw [List.mem_iff_getElem?]
    exact ⟨i, by simp [ho]⟩
  simp only [edgesOk, List.all_eq_true, Bool.and_eq_true] at h5
  have hback : ∀ i o, ops[i]? = some o → ∀ e ∈ o.after, Region.binds .any e = true → e.on < i := by
    intro i o ho e he hb
    have := (h5 (o, i) (hzip i o ho)).2
    have := this e (by simpa using he)
    rw [hb] at this
    simpa [Nat.blt_eq] using this
  simp only [drawOk, onceOk, Bool.and_eq_true, decide_eq_true_eq, List.all_eq_true, lookOk] at h6
  obtain ⟨h6, h7⟩ := h6
  have hws : ∀ (i : Nat) (o : Oper) (d : Nat), ops[i]? = some o → o.dst = some d → (d, i) ∈ (ops.toList.zipIdx.filterMap fun (o, i) => o.dst.map fun d => (d, i)) := by
    intro i o d ho hd
    exact List.mem_filterMap.2 ⟨(o, i), hzip i o ho, by simp [hd]⟩
  refine ⟨fun c hc => ?_, hall, ordered_spec h2, hback, ?_, ?_, ?_, h1, ?_⟩
  · obtain ⟨o, h1, _, h2⟩ := mem c hc; exact ⟨o, h1, h2⟩
  · intro c hc o ho j hj
    obtain ⟨o', ho', hb, _⟩ := mem c hc
    rw [ho] at ho'; cases ho'
    have h51 := Nat.eq_of_beq_eq_true (h5 (o, c.i) (hzip _ o ho)).1
    simp only at h51
    have hb' : (Region.before ops).toList.getD c.i 0 = c.bef := hb.symm
    rw [hb'] at h51
    rw [h51] at hj
    rcases bitsOf_spec _ _ _ _ hj with h | ⟨e, he, hbn, h⟩
    · simp at h
    · refine ⟨e, by simpa using he, hbn, ?_⟩
      rcases h with h | h
      · exact .inl h
      · have hlt : e.on < ops.size := by
          have := hback c.i o ho e (by simpa using he) hbn
          have := (Array.getElem?_eq_some_iff.1 ho).1
          omega
        obtain ⟨c2, hc2, he2⟩ := hall e.on hlt
        obtain ⟨_, _, hb2, _⟩ := mem c2 hc2
        refine .inr ⟨c2, hc2, he2, ?_⟩
        rw [hb2, he2]; exact h
  · intro c hc c2 hc2 p hp hp2
    obtain ⟨o, ho, _, _, hd, _⟩ := mem c hc
    obtain ⟨o2, ho2, _, _, hd2, _⟩ := mem c2 hc2
    rw [hp] at hd; rw [hp2] at hd2
    obtain ⟨d, rfl, hd'⟩ := compD_any hd
    have hd2' := compD_some hd2
    exact nodup_fst h6 (hws _ _ _ ho hd') (hws _ _ _ ho2 hd2')
  · intro c hc c2 hc2 o ho d hdl hd2
    obtain ⟨o', ho', hb, _⟩ := mem c hc
    rw [ho] at ho'; cases ho'
    obtain ⟨o2, ho2, hb2, _, hdd, hk2⟩ := mem c2 hc2
    rw [hd2] at hdd
    have hdd := compD_some hdd
    have h := h7 (o, c.i) (hzip _ o ho) d hdl (d, c2.i) (hws _ _ _ ho2 hdd)
    simp only [bne_self_eq_false, Bool.false_or, Bool.and_eq_true, Bool.or_eq_true] at h
    obtain ⟨hne, h⟩ := h
    refine ⟨fun e => by rw [e] at hne; simp at hne, ?_⟩
    rcases h with h | ⟨he, h⟩
    · left; rw [hb]; exact h
    · right
      rw [List.contains_iff_mem] at he
      obtain ⟨c3, hc3, he3⟩ := List.mem_map.1 he
      obtain ⟨hc3, hef⟩ := List.mem_filter.1 hc3
      obtain ⟨o3, ho3, _, _, _, hk3⟩ := mem c3 hc3
      rw [he3, ho2] at ho3
      cases ho3
      refine ⟨by rw [hk2, ← hk3]; exact hef, ?_⟩
      rw [hb2]; exact h
  · intro i o ho cs b heq
    rw [List.all_eq_true] at h3
    have := h3 o (by rw [Array.mem_toList_iff]; exact Array.mem_of_getElem? ho)
    rw [heq] at this
    cases this

end Go.AE
