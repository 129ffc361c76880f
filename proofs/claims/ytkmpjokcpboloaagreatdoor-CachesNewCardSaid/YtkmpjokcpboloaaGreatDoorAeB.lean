/-
  A part of the abstract evaluator's soundness: its operations agree with the model's. No conditions beyond the theorems' own.
-/
import Derived.Test.YtkmpjokcpboloaaGreatDoorAeA
import Derived.Calls
import Derived.Wp
namespace Go.AE

/-! names and tries -/
def Pos.toNat : Pos → Nat
  | .h => 1
  | .o p => 2 * p.toNat
  | .i p => 2 * p.toNat + 1

theorem Pos.toNat_pos (p : Pos) : 1 ≤ p.toNat := by
  induction p <;> simp [Pos.toNat] <;> omega

theorem Pos.toNat_inj {p q : Pos} (h : p.toNat = q.toNat) : p = q := by
  induction p generalizing q with
  | h => cases q with
    | h => rfl
    | o q => have := q.toNat_pos; simp [Pos.toNat] at h; omega
    | i q => have := q.toNat_pos; simp [Pos.toNat] at h; omega
  | o p ih => cases q with
    | h => have := p.toNat_pos; simp [Pos.toNat] at h; omega
    | o q => simp only [Pos.toNat] at h; rw [ih (q := q) (by omega)]
    | i q => simp only [Pos.toNat] at h; omega
  | i p ih => cases q with
    | h => have := p.toNat_pos; simp [Pos.toNat] at h; omega
    | o q => simp only [Pos.toNat] at h; omega
    | i q => simp only [Pos.toNat] at h; rw [ih (q := q) (by omega)]

theorem Pos.toNat_succ (p : Pos) : p.succ.toNat = p.toNat + 1 := by
  induction p <;> simp [Pos.succ, Pos.toNat] <;> omega

theorem Pos.beq_eq (p q : Pos) : p.beq q = decide (p = q) := by
  induction p generalizing q <;> cases q <;> simp [Pos.beq, *]

theorem Pos.toNat_ofNatF (f n : Nat) (h1 : 1 ≤ n) (h2 : n ≤ f) : (Pos.ofNatF f n).toNat = n := by
  induction f generalizing n with
  | zero => omega
  | succ f ih =>
    unfold Pos.ofNatF
    split
    · rename_i h; have := Nat.le_of_ble_eq_true h; have : n = 1 := by omega
      subst this; rfl
    · rename_i h
      have hn : ¬ n ≤ 1 := fun hh => by rw [Nat.ble_eq_true_of_le hh] at h; cases h
      split
      · rename_i h'; have := Nat.eq_of_beq_eq_true h'
        simp only [Pos.toNat]; rw [ih _ (by omega) (by omega)]; omega
      · rename_i h'; have := Nat.ne_of_beq_eq_false h'
        simp only [Pos.toNat]; rw [ih _ (by omega) (by omega)]; omega

theorem toNat_nm (n : Nat) : (nm n).toNat = n + 1 := Pos.toNat_ofNatF _ _ (by omega) (by omega)
theorem nm_inj {a b : Nat} (h : nm a = nm b) : a = b := by
  have := congrArg Pos.toNat h; rw [toNat_nm, toNat_nm] at this; omega

section
variable {α : Type} (d : α)
theorem Tr.get_nil (k : Pos) : Tr.get d .nil k = d := rfl
theorem Tr.get_h (l : Tr α) (v : α) (r : Tr α) : Tr.get d (.node l v r) .h = v := rfl
theorem Tr.get_o (l : Tr α) (v : α) (r : Tr α) (k : Pos) : Tr.get d (.node l v r) (.o k) = Tr.get d l k := rfl
theorem Tr.get_i (l : Tr α) (v : α) (r : Tr α) (k : Pos) : Tr.get d (.node l v r) (.i k) = Tr.get d r k := rfl
theorem Tr.one_h (x : α) : Tr.one d .h x = .node .nil x .nil := rfl
theorem Tr.one_o (k : Pos) (x : α) : Tr.one d (.o k) x = .node (Tr.one d k x) d .nil := rfl
theorem Tr.one_i (k : Pos) (x : α) : Tr.one d (.i k) x = .node .nil d (Tr.one d k x) := rfl
theorem Tr.set_nil (k : Pos) (x : α) : Tr.set d .nil k x = Tr.one d k x := rfl
theorem Tr.set_h (l : Tr α) (v : α) (r : Tr α) (x : α) : Tr.set d (.node l v r) .h x = .node l x r := rfl
theorem Tr.set_o (l : Tr α) (v : α) (r : Tr α) (k : Pos) (x : α) : Tr.set d (.node l v r) (.o k) x = .node (Tr.set d l k x) v r := rfl
theorem Tr.set_i (l : Tr α) (v : α) (r : Tr α) (k : Pos) (x : α) : Tr.set d (.node l v r) (.i k) x = .node l v (Tr.set d r k x) := rfl

theorem Tr.get_one (k j : Pos) (x : α) : Tr.get d (Tr.one d k x) j = if j = k then x else d := by
  induction k generalizing j <;> cases j <;> simp [Tr.one_h, Tr.one_o, Tr.one_i, Tr.get_h, Tr.get_o, Tr.get_i, Tr.get_nil, *]

theorem Tr.get_set (t : Tr α) (k j : Pos) (x : α) : Tr.get d (Tr.set d t k x) j = if j = k then x else Tr.get d t j := by
  induction t generalizing k j with
  | nil => rw [Tr.set_nil, Tr.get_one, Tr.get_nil]
  | node l v r ihl ihr =>
    cases k <;> cases j <;> simp [Tr.set_h, Tr.set_o, Tr.set_i, Tr.get_h, Tr.get_o, Tr.get_i, *]
end

theorem getT_set (t : Tr V) (d : Nat) (i : Nat) (v : V) : getT (t.set undef (nm d) v) i = if i = d then v else getT t i := by
  unfold getT
  rw [Tr.get_set]
  by_cases h : i = d
  · subst h; simp
  · rw [if_neg h, if_neg (fun e => h (nm_inj e))]

theorem getT_nil (i : Nat) : getT .nil i = undef := rfl

theorem H.get_put (h : H) (b c : Pos) (o : O) : (h.put b o).get c = if c = b then o else h.get c := by
  cases h; exact Tr.get_set _ _ _ _ _
theorem H.nx_put (h : H) (b : Pos) (o : O) : (h.put b o).nx = h.nx := by cases h; rfl

noncomputable def H.add (h : H) (o : O) : H := ⟨h.nx.succ, h.t.set .dead h.nx o⟩
theorem newR_eq (h : H) (a : Al) : newR h a = .ok (a.m.val h.nx) (h.add a.o) := by cases h; rfl
theorem H.get_add (h : H) (c : Pos) (o : O) : (h.add o).get c = if c = h.nx then o else h.get c := by
  cases h; exact Tr.get_set _ _ _ _ _
theorem H.nx_add (h : H) (o : O) : (h.add o).nx = h.nx.succ := rfl

/-! trees of ends -/
def R.any (Q : V → H → Prop) : R → Prop
  | .fail => True
  | .ok v h => Q v h
  | .ask n k => ∃ i, i < n ∧ (k i).any Q
def E.any (Q : Ex → Tr V → List D → H → Prop) : E → Prop
  | .fail => True
  | .ok e t ds h => Q e t ds h
  | .ask n k => ∃ i, i < n ∧ (k i).any Q

theorem R.any_mono {Q Q' : V → H → Prop} (hq : ∀ v h, Q v h → Q' v h) : ∀ (r : R), r.any Q → r.any Q'
  | .fail, _ => trivial
  | .ok v h, hh => hq v h hh
  | .ask _ k, ⟨i, hi, hh⟩ => ⟨i, hi, R.any_mono hq (k i) hh⟩
theorem E.any_mono {Q Q' : Ex → Tr V → List D → H → Prop} (hq : ∀ e t ds h, Q e t ds h → Q' e t ds h) : ∀ (r : E), r.any Q → r.any Q'
  | .fail, _ => trivial
  | .ok e t ds h, hh => hq e t ds h hh
  | .ask _ k, ⟨i, hi, hh⟩ => ⟨i, hi, E.any_mono hq (k i) hh⟩

theorem R.any_bindE {Q : Ex → Tr V → List D → H → Prop} {f : V → H → E} : ∀ (r : R), r.any (fun v h => (f v h).any Q) → (r.bindE f).any Q
  | .fail, _ => trivial
  | .ok _ _, hh => hh
  | .ask _ k, ⟨i, hi, hh⟩ => ⟨i, hi, R.any_bindE (k i) hh⟩
theorem R.any_bind {Q : V → H → Prop} {f : V → H → R} : ∀ (r : R), r.any (fun v h => (f v h).any Q) → (r.bind f).any Q
  | .fail, _ => trivial
  | .ok _ _, hh => hh
  | .ask _ k, ⟨i, hi, hh⟩ => ⟨i, hi, R.any_bind (k i) hh⟩
theorem E.any_bind {Q : Ex → Tr V → List D → H → Prop} {f : Ex → Tr V → List D → H → E} : ∀ (r : E), r.any (fun e t ds h => (f e t ds h).any Q) → (r.bind f).any Q
  | .fail, _ => trivial
  | .ok _ _ _ _, hh => hh
  | .ask _ k, ⟨i, hi, hh⟩ => ⟨i, hi, E.any_bind (k i) hh⟩
theorem E.any_bindR {Q : V → H → Prop} {f : Ex → Tr V → List D → H → R} : ∀ (r : E), r.any (fun e t ds h => (f e t ds h).any Q) → (r.bindR f).any Q
  | .fail, _ => trivial
  | .ok _ _ _ _, hh => hh
  | .ask _ k, ⟨i, hi, hh⟩ => ⟨i, hi, E.any_bindR (k i) hh⟩

/-! the relation of values -/
structure Loc where
  blk : Nat
  base : Nat
  cap : Nat
  esz : Nat

abbrev Inj := Pos → Option Loc

def Inj.le (μ ν : Inj) : Prop := ∀ b l, μ b = some l → ν b = some l
theorem Inj.le.refl (μ : Inj) : μ.le μ := fun _ _ h => h
theorem Inj.le.trans {μ ν κ : Inj} (h : μ.le ν) (h' : ν.le κ) : μ.le κ := fun b l hb => h' b l (h b l hb)

mutual
def VRel (μ : Inj) : V → Value → Prop
  | .bool b, c => c = .bool b
  | .int k n, c => c = .int k n
  | .str s, c => c = .string s
  | .ptr b o, c => ∃ l, μ b = some l ∧ c = .pointer (some ⟨l.blk, l.base + o, none⟩)
  | .nilp, c => c = .pointer none
  | .slice b o n cap, c => ∃ l m, μ b = some l ∧ c = .slice (some ⟨l.blk, l.base + o, none⟩) n m ∧
      (match cap with
       | some k => m = k
       | none => l.esz ≠ 0 ∧ n ≤ m ∧ ∃ q, o = q * l.esz ∧ q + m = l.cap)
  | .nilsl, c => c = .slice none 0 0
  | .map r, c => ∃ l, μ r = some l ∧ c = .map (some l.blk)
  | .nilmap, c => c = .map none
  | .chan r, c => ∃ l, μ r = some l ∧ c = .chan (some l.blk)
  | .nilchan, c => c = .chan none
  | .func fn a b, c => ∃ a' b', c = .func fn ⟨a'⟩ ⟨b'⟩ ∧ VRels μ a a' ∧ VRels μ b b'
  | .yield r, c => ∃ l, μ r = some l ∧ c = .func (.yield l.blk) ⟨[]⟩ ⟨[]⟩
  | .nilfn, c => c = .nilFunc
  | .iface t v, c => ∃ c', c = .iface t c' ∧ VRel μ v c'
  | .nilif, c => c = .nilIface
  | .agg l, c => ∃ l', c = .agg ⟨l'⟩ ∧ VRels μ l l'
  | .tuple l, c => ∃ l', c = .tuple ⟨l'⟩ ∧ VRels μ l l'
  | .junk, c => ∃ k n, c = .int k n
def VRels (μ : Inj) : List V → List Value → Prop
  | [], l => l = []
  | v :: vs, l => ∃ c cs, l = c :: cs ∧ VRel μ v c ∧ VRels μ vs cs
end

mutual
theorem VRel.mono {μ ν : Inj} (h : μ.le ν) : ∀ (v : V) (c : Value), VRel μ v c → VRel ν v c
  | .bool _, _, hh => hh
  | .int _ _, _, hh => hh
  | .str _, _, hh => hh
  | .ptr _ _, _, ⟨l, hl, e⟩ => ⟨l, h _ _ hl, e⟩
  | .nilp, _, hh => hh
  | .slice _ _ _ _, _, ⟨l, m, hl, e⟩ => ⟨l, m, h _ _ hl, e⟩
  | .nilsl, _, hh => hh
  | .map _, _, ⟨l, hl, e⟩ => ⟨l, h _ _ hl, e⟩
  | .nilmap, _, hh => hh
  | .chan _, _, ⟨l, hl, e⟩ => ⟨l, h _ _ hl, e⟩
  | .nilchan, _, hh => hh
  | .func _ a b, _, ⟨a', b', e, ha, hb⟩ => ⟨a', b', e, VRels.mono h a a' ha, VRels.mono h b b' hb⟩
  | .yield _, _, ⟨l, hl, e⟩ => ⟨l, h _ _ hl, e⟩
  | .nilfn, _, hh => hh
  | .iface _ v, _, ⟨c', e, hv⟩ => ⟨c', e, VRel.mono h v c' hv⟩
  | .nilif, _, hh => hh
  | .agg l, _, ⟨l', e, hl⟩ => ⟨l', e, VRels.mono h l l' hl⟩
  | .tuple l, _, ⟨l', e, hl⟩ => ⟨l', e, VRels.mono h l l' hl⟩
  | .junk, _, hh => hh
theorem VRels.mono {μ ν : Inj} (h : μ.le ν) : ∀ (l : List V) (c : List Value), VRels μ l c → VRels ν l c
  | [], _, hh => hh
  | v :: vs, _, ⟨c, cs, e, hv, hs⟩ => ⟨c, cs, e, VRel.mono h v c hv, VRels.mono h vs cs hs⟩
end

theorem VRel.undef (μ : Inj) : VRel μ AE.undef Go.undef := ⟨[], rfl, rfl⟩

section lists
variable {μ : Inj}
theorem VRels.nil : VRels μ [] [] := rfl
theorem VRels.cons {v : V} {c : Value} {vs cs} (h : VRel μ v c) (hs : VRels μ vs cs) : VRels μ (v :: vs) (c :: cs) := ⟨c, cs, rfl, h, hs⟩
theorem VRels.length : ∀ {l : List V} {c : List Value}, VRels μ l c → l.length = c.length
  | [], _, h => by cases h; rfl
  | _ :: _, _, ⟨_, _, e, _, hs⟩ => by subst e; simp [VRels.length hs]
theorem VRels.append : ∀ {a : List V} {a' : List Value} {b b'}, VRels μ a a' → VRels μ b b' → VRels μ (a ++ b) (a' ++ b')
  | [], _, _, _, h, hb => by cases h; exact hb
  | _ :: _, _, _, _, ⟨_, _, e, hv, hs⟩, hb => by subst e; exact VRels.cons hv (VRels.append hs hb)
theorem VRels.get : ∀ {l : List V} {c : List Value} (i : Nat) {v : V}, VRels μ l c → nthL l i = some v → ∃ x, c[i]? = some x ∧ VRel μ v x
  | [], _, _, _, _, h => by simp [nthL] at h
  | _ :: _, _, 0, _, ⟨c, cs, e, hv, _⟩, h => by subst e; simp only [nthL, Option.some.injEq] at h; subst h; exact ⟨c, rfl, hv⟩
  | _ :: _, _, i + 1, _, ⟨c, cs, e, _, hs⟩, h => by
    subst e; obtain ⟨x, hx, hr⟩ := VRels.get i hs (by simpa [nthL] using h); exact ⟨x, by simpa using hx, hr⟩
theorem VRels.drop : ∀ {l : List V} {c : List Value} (n : Nat), VRels μ l c → VRels μ (dropL n l) (c.drop n)
  | [], _, 0, h => h
  | [], _, _ + 1, h => by cases h; rfl
  | _ :: _, _, 0, h => h
  | _ :: _, _, n + 1, ⟨c, cs, e, _, hs⟩ => by subst e; exact VRels.drop n hs
theorem VRels.take : ∀ {l : List V} {c : List Value} (n : Nat) {l'}, VRels μ l c → takeL n l = some l' → VRels μ l' (c.take n) ∧ n ≤ c.length
  | l, _, 0, l', h, e => by simp only [takeL, Option.some.injEq] at e; subst e; exact ⟨rfl, by omega⟩
  | [], _, _ + 1, _, _, e => by simp [takeL] at e
  | _ :: vs, _, n + 1, l', ⟨c, cs, ec, hv, hs⟩, e => by
    subst ec
    simp only [takeL] at e
    split at e
    · rename_i l'' hl; cases e
      obtain ⟨hr, hn⟩ := VRels.take n hs hl
      exact ⟨VRels.cons hv hr, by simp; omega⟩
    · cases e
end lists

theorem nthL_eq (l : List V) (i : Nat) : nthL l i = l[i]? := by
  induction l generalizing i with
  | nil => simp [nthL]
  | cons a l ih => cases i <;> simp [nthL, ih]
theorem dropL_eq (n : Nat) (l : List V) : dropL n l = l.drop n := by
  induction n generalizing l with
  | zero => simp [dropL]
  | succ n ih => cases l <;> simp [dropL, ih]
theorem takeL_eq (n : Nat) (l : List V) : takeL n l = if n ≤ l.length then some (l.take n) else none := by
  induction n generalizing l with
  | zero => simp [takeL]
  | succ n ih => cases l with
    | nil => simp [takeL]
    | cons a l => simp only [takeL, ih, List.length_cons, Nat.add_le_add_iff_right]; by_cases hn : n ≤ l.length <;> simp [hn]

/-! constants -/
theorem mapO_rel {μ : Inj} {f : Value → Option V} (hf : ∀ c v, f c = some v → VRel μ v c) : ∀ (l : List Value) (vs : List V), mapO f l = some vs → VRels μ vs l
  | [], vs, h => by simp only [mapO, Option.some.injEq] at h; subst h; rfl
  | c :: l, vs, h => by
    simp only [mapO] at h
    split at h
    · rename_i y hy
      split at h
      · rename_i ys hys; cases h; exact VRels.cons (hf _ _ hy) (mapO_rel hf l ys hys)
      · cases h
    · cases h

theorem ofValue_rel (μ : Inj) : ∀ (n : Nat) (c : Value) (v : V), ofValue n c = some v → VRel μ v c
  | 0, _, _, h => by simp [ofValue] at h
  | n + 1, c, v, h => by
    unfold ofValue at h
    split at h <;> first
      | (cases h; first | exact rfl | exact ⟨_, _, rfl, rfl, rfl⟩)
      | skip
    · rename_i cs
      split at h
      · rename_i l hl; cases h; exact ⟨cs.toList, rfl, mapO_rel (ofValue_rel μ n) _ _ hl⟩
      · cases h
    · rename_i cs
      split at h
      · rename_i l hl; cases h; exact ⟨cs.toList, rfl, mapO_rel (ofValue_rel μ n) _ _ hl⟩
      · cases h
    · split at h
      · rename_i v' hv; cases h; exact ⟨_, rfl, ofValue_rel μ n _ _ hv⟩
      · cases h
    · cases h

theorem V.cells_rel {μ : Inj} {v : V} {c : Value} (h : VRel μ v c) : VRels μ v.cells c.cells.toList := by
  cases v <;> first
    | (obtain ⟨l', rfl, hl⟩ := h; exact hl)
    | (have hc : c.cells = #[c] := by
        first
          | (cases h; rfl)
          | (obtain ⟨_, _, rfl⟩ := h; rfl)
          | (obtain ⟨_, _, _, rfl, _⟩ := h; rfl)
          | (obtain ⟨_, _, rfl, _⟩ := h; rfl)
          | (obtain ⟨_, rfl, _⟩ := h; rfl)
          | (simp only [VRel] at h; cases c <;> first | rfl | (simp [Value.oneCell] at h))
       rw [hc]
       exact VRels.cons h rfl)

end Go.AE
