/-
  A part of the abstract evaluator's soundness: its operations agree with the model's. No conditions beyond the theorems' own.
-/
import Derived.Test.YtkmpjokcpboloaaGreatDoorAeB
import Derived.WalkKit
namespace Go.AE

/-! the relation of heaps -/
def TRel (μ : Inj) (n : Nat) (t : Tr V) (tmps : Array Value) : Prop :=
  tmps.size = n ∧ ∀ i, VRel μ (getT t i) (tmps.getD i Go.undef)

def ERel (μ : Inj) (x : V × V × Nat) (e : MapEntry) : Prop := VRel μ x.1 e.key ∧ VRel μ x.2.1 e.val ∧ x.2.2 = e.born
def ERels (μ : Inj) : List (V × V × Nat) → List MapEntry → Prop
  | [], l => l = []
  | x :: xs, l => ∃ e es, l = e :: es ∧ ERel μ x e ∧ ERels μ xs es

def DRels (μ : Inj) : List D → List Deferred → Prop
  | [], l => l = []
  | .round :: xs, l => DRels μ xs l
  | .collected r :: xs, l => ∃ m es, l = { target := .collected m.blk, args := #[] } :: es ∧ μ r = some m ∧ DRels μ xs es

def PRel (μ : Inj) (m : Option Pos) (c : Option Nat) : Prop := match m with
  | none => c = none
  | some r => ∃ l, μ r = some l ∧ c = some l.blk

/-- what is known of a block's shape: a row of its own, whole; a row of bytes of a string; a row that grew -/
def ShapeOk (l : Loc) (nc nm np : Nat) : Option Nat → Prop
  | none => l.base = 0 ∧ np = 0
  | some 0 => True
  | some (sz + 1) => l.esz = sz + 1 ∧ (∃ n, nc = n * (sz + 1)) ∧ nm + np = l.cap * (sz + 1)

structure CellsRel (μ : Inj) (l : Loc) (cs : List V) (e : TypeId) (g : Option Nat) (fz : Nat) (ro : Bool) (w : World) (C : Array Value) (lo hi : Nat) (pre mid post : List Value) : Prop where
  blk : w.heap[l.blk]? = some (.cells C e (lo, hi))
  split : C.toList = pre ++ (mid ++ post)
  base : pre.length = l.base
  vals : VRels μ cs mid
  frz : ro = true ∨ ((∀ i, fz ≤ i → l.base + i < C.size → ¬ (lo ≤ l.base + i ∧ l.base + i < hi)) ∧ (g = some 0 ∨ lo = hi ∨ hi ≤ l.base + fz))
  shape : ShapeOk l cs.length mid.length post.length g

def ORel (μ : Inj) (l : Loc) (o : O) (w : World) : Prop := match o with
  | .cells cs e g fz ro => ∃ C lo hi pre mid post, CellsRel μ l cs e g fz ro w C lo hi pre mid post
  | .map es clock => ∃ es', w.heap[l.blk]? = some (.map ⟨es'⟩ clock) ∧ ERels μ es es'
  | .chan n buf cl s r => ∃ buf', w.heap[l.blk]? = some (.chan n ⟨buf'⟩ cl s r false) ∧ VRels μ buf buf'
  | .siter s p => w.heap[l.blk]? = some (.stringIter s p) ∧ l.base = 0
  | .miter m since seen stepped => ∃ m', w.heap[l.blk]? = some (.mapIter m' since ⟨seen⟩ stepped) ∧ PRel μ m m' ∧ l.base = 0
  | .loop r => ∃ f tmps ld, w.heap[l.blk]? = some (.loop { state := r.st, pending := r.pending, fn := f, tmps, params := ⟨r.params⟩, assign := r.assign, body := r.body, defers := ld.blk }) ∧
      μ r.defers = some ld ∧ TRel μ r.nt r.tmps tmps
  | .defd here => w.heap[l.blk]? = some (.deferred (if here = true then some [] else none))
  | .dead => True

theorem TRel.mono {μ ν : Inj} (h : μ.le ν) {n t tmps} (hh : TRel μ n t tmps) : TRel ν n t tmps := ⟨hh.1, fun i => VRel.mono h _ _ (hh.2 i)⟩
theorem ERel.mono {μ ν : Inj} (h : μ.le ν) {x e} (hh : ERel μ x e) : ERel ν x e := ⟨VRel.mono h _ _ hh.1, VRel.mono h _ _ hh.2.1, hh.2.2⟩
theorem ERels.mono {μ ν : Inj} (h : μ.le ν) : ∀ {x e}, ERels μ x e → ERels ν x e
  | [], _, hh => hh
  | _ :: _, _, ⟨e, es, eq, hx, hs⟩ => ⟨e, es, eq, hx.mono h, hs.mono h⟩
theorem DRels.mono {μ ν : Inj} (h : μ.le ν) : ∀ {x : List D} {e}, DRels μ x e → DRels ν x e
  | [], _, hh => hh
  | .round :: xs, _, hh => DRels.mono (x := xs) h hh
  | .collected _ :: xs, _, ⟨m, es, eq, hx, hs⟩ => ⟨m, es, eq, h _ _ hx, DRels.mono (x := xs) h hs⟩
theorem PRel.mono {μ ν : Inj} (h : μ.le ν) {m c} (hh : PRel μ m c) : PRel ν m c := by
  cases m with
  | none => exact hh
  | some r => obtain ⟨l, hl, e⟩ := hh; exact ⟨l, h _ _ hl, e⟩

theorem ORel.keep {μ ν : Inj} (h : μ.le ν) {l : Loc} {o : O} {w w' : World} (hh : ORel μ l o w) (hw : ∀ x, w.heap[l.blk]? = some x → w'.heap[l.blk]? = some x) : ORel ν l o w' := by
  cases o with
  | cells cs e g fz ro => obtain ⟨C, lo, hi, pre, mid, post, r⟩ := hh; exact ⟨C, lo, hi, pre, mid, post, hw _ r.blk, r.split, r.base, VRels.mono h _ _ r.vals, r.frz, r.shape⟩
  | map es clock => obtain ⟨es', hb, he⟩ := hh; exact ⟨es', hw _ hb, he.mono h⟩
  | chan n buf cl s r => obtain ⟨b, hb, he⟩ := hh; exact ⟨b, hw _ hb, VRels.mono h _ _ he⟩
  | siter s p => exact ⟨hw _ hh.1, hh.2⟩
  | miter m since seen stepped => obtain ⟨m', hb, he, hz⟩ := hh; exact ⟨m', hw _ hb, he.mono h, hz⟩
  | loop r => obtain ⟨f, tmps, ld, hb, hd, ht⟩ := hh; exact ⟨f, tmps, ld, hw _ hb, h _ _ hd, ht.mono h⟩
  | defd here => exact hw _ hh
  | dead => trivial

theorem ORel.lt {μ : Inj} {l : Loc} {o : O} {w : World} (hh : ORel μ l o w) (hl : o.live = true) : l.blk < w.heap.size := by
  have key : ∀ x, w.heap[l.blk]? = some x → l.blk < w.heap.size := fun x hx => by
    rcases Nat.lt_or_ge l.blk w.heap.size with h | h
    · exact h
    · rw [Array.getElem?_eq_none h] at hx; cases hx
  cases o with
  | cells cs e g fz ro => obtain ⟨C, lo, hi, pre, mid, post, r⟩ := hh; exact key _ r.blk
  | map es clock => obtain ⟨es', hb, he⟩ := hh; exact key _ hb
  | chan n buf cl s r => obtain ⟨b, hb, he⟩ := hh; exact key _ hb
  | siter s p => exact key _ hh.1
  | miter m since seen stepped => obtain ⟨m', hb, he⟩ := hh; exact key _ hb
  | loop r => obtain ⟨f, tmps, ld, hb, hd, ht⟩ := hh; exact key _ hb
  | defd here => exact key _ hh
  | dead => cases hl

/-- what does not change in a run: the heap's size at the start, which of its blocks may be written, the world then -/
structure Gp where
  C : Ctx
  N : Nat
  X : Nat → Prop
  w0 : World

def O.ro : O → Prop
  | .cells _ _ _ _ ro => ro = true
  | _ => False

structure Sim (G : Gp) (μ : Inj) (h : H) (w : World) : Prop where
  obj : ∀ b l, μ b = some l → ORel μ l (h.get b) w
  inj : ∀ b c l m, μ b = some l → μ c = some m → (h.get b).live = true → (h.get c).live = true → l.blk = m.blk → b = c
  nx : ∀ b l, μ b = some l → b.toNat < h.nx.toNat
  old : ∀ B, B < G.N → ¬ G.X B → w.heap[B]? = G.w0.heap[B]?
  size : G.N ≤ w.heap.size
  wr : ∀ b l, μ b = some l → (h.get b).live = true → l.blk < G.N → ¬ G.X l.blk → (h.get b).ro
  env : w.os = G.w0.os ∧ w.output = G.w0.output ∧ w.tape = G.w0.tape
  gl : ∀ g, G.C.gl g = true → ∃ l, μ (nm g) = some l ∧ l.blk = g ∧ l.base = 0

def Inj.set (μ : Inj) (b : Pos) (l : Loc) : Inj := fun c => if c = b then some l else μ c
theorem Inj.set_self (μ : Inj) (b : Pos) (l : Loc) : μ.set b l b = some l := by simp [Inj.set]
theorem Inj.set_other (μ : Inj) {b c : Pos} (l : Loc) (h : c ≠ b) : μ.set b l c = μ c := by simp [Inj.set, h]
theorem Inj.le_set {μ : Inj} {b : Pos} (l : Loc) (h : μ b = none) : μ.le (μ.set b l) := fun c m hc => by
  by_cases e : c = b
  · subst e; rw [h] at hc; cases hc
  · rw [Inj.set_other _ _ e]; exact hc

section
variable {G : Gp} {μ : Inj} {h : H} {w : World}

theorem Sim.fresh (s : Sim G μ h w) : μ h.nx = none := by
  cases e : μ h.nx with
  | none => rfl
  | some l => have := s.nx _ _ e; omega

/-- a new block under a name that is free -/
theorem Sim.newAt (s : Sim G μ h w) {h' : H} {b : Pos} (hb : μ b = none) (o : O) (x : Obj) (l : Loc)
    (hget : ∀ c, c ≠ b → μ c ≠ none → h'.get c = h.get c) (hself : h'.get b = o) (hnx : ∀ c m, (μ.set b l) c = some m → c.toNat < h'.nx.toNat) (hl : l.blk = w.heap.size)
    (ho : ORel (μ.set b l) l o { w with heap := w.heap.push x }) :
    Sim G (μ.set b l) h' { w with heap := w.heap.push x } := by
  have hle : μ.le (μ.set b l) := Inj.le_set l hb
  have hpush : ∀ B y, w.heap[B]? = some y → (w.heap.push x)[B]? = some y := fun B y hy => by
    have : B < w.heap.size := by
      rcases Nat.lt_or_ge B w.heap.size with h | h
      · exact h
      · rw [Array.getElem?_eq_none h] at hy; cases hy
    rw [Array.getElem?_push_lt this, ← hy, Array.getElem?_eq_getElem this]
  refine ⟨?_, ?_, hnx, ?_, ?_, ?_, s.env, ?_⟩
  · intro c m hc
    by_cases e : c = b
    · subst e; rw [Inj.set_self] at hc; cases hc; rw [hself]; exact ho
    · rw [Inj.set_other _ _ e] at hc
      rw [hget c e (by rw [hc]; simp)]
      exact (s.obj c m hc).keep hle (fun y hy => hpush _ _ hy)
  · intro c d m k hc hd lc ld e
    have aux : ∀ c d m k, c = b → d ≠ b → (μ.set b l) c = some m → (μ.set b l) d = some k → (h'.get d).live = true → m.blk = k.blk → False := by
      intro c d m k ec ed hc hd ld e
      subst ec
      rw [Inj.set_self] at hc; cases hc
      rw [Inj.set_other _ _ ed] at hd
      rw [hget d ed (by rw [hd]; simp)] at ld
      have := (s.obj d k hd).lt ld
      omega
    by_cases ec : c = b <;> by_cases ed : d = b
    · rw [ec, ed]
    · exact (aux c d m k ec ed hc hd ld e).elim
    · exact (aux d c k m ed ec hd hc lc e.symm).elim
    · rw [Inj.set_other _ _ ec] at hc; rw [Inj.set_other _ _ ed] at hd
      rw [hget c ec (by rw [hc]; simp)] at lc
      rw [hget d ed (by rw [hd]; simp)] at ld
      exact s.inj c d m k hc hd lc ld e
  · intro B hB hX
    have := s.size
    rw [← s.old B hB hX]
    exact Array.getElem?_push_lt (by omega) |>.trans (Array.getElem?_eq_getElem (by omega)).symm
  · have := s.size; simp; omega
  · intro c m hc lc hN hX
    by_cases e : c = b
    · subst e; rw [Inj.set_self] at hc; cases hc
      have := s.size; omega
    · rw [Inj.set_other _ _ e] at hc
      rw [hget c e (by rw [hc]; simp)] at lc ⊢
      exact s.wr c m hc lc hN hX
  · intro g hg; obtain ⟨m, hm, e⟩ := s.gl g hg; exact ⟨m, hle _ _ hm, e⟩

theorem Sim.new (s : Sim G μ h w) (o : O) (x : Obj) (l : Loc) (hl : l.blk = w.heap.size) (ho : ORel (μ.set h.nx l) l o { w with heap := w.heap.push x }) :
    μ.le (μ.set h.nx l) ∧ Sim G (μ.set h.nx l) (h.add o) { w with heap := w.heap.push x } := by
  refine ⟨Inj.le_set l s.fresh, s.newAt s.fresh o x l (fun c hc _ => by rw [H.get_add, if_neg hc]) (by rw [H.get_add, if_pos rfl]) ?_ hl ho⟩
  intro c m hc
  rw [H.nx_add, Pos.toNat_succ]
  by_cases e : c = h.nx
  · subst e; omega
  · rw [Inj.set_other _ _ e] at hc; have := s.nx c m hc; omega

/-- one block's object is replaced -/
theorem Sim.upd (s : Sim G μ h w) {b : Pos} {l : Loc} (hb : μ b = some l) (hlive : (h.get b).live = true) (hro : ¬ (h.get b).ro) (o : O) (w' : World)
    (hother : ∀ B, B ≠ l.blk → w'.heap[B]? = w.heap[B]?) (hsize : w'.heap.size = w.heap.size) (henv : w'.os = w.os ∧ w'.output = w.output ∧ w'.tape = w.tape)
    (ho : ORel μ l o w') : Sim G μ (h.put b o) w' := by
  refine ⟨?_, ?_, ?_, ?_, ?_, ?_, ?_, s.gl⟩
  · intro c m hc
    rw [H.get_put]
    by_cases e : c = b
    · subst e; rw [if_pos rfl]; rw [hb] at hc; cases hc; exact ho
    · rw [if_neg e]
      by_cases hl : (h.get c).live = true
      · refine (s.obj c m hc).keep (Inj.le.refl _) fun y hy => ?_
        rw [hother _ (fun e' => e (s.inj c b m l hc hb hl hlive e'))]; exact hy
      · have : h.get c = .dead := by cases hh : h.get c <;> simp [hh, O.live] at hl ⊢
        rw [this]; trivial
  · intro c d m k hc hd lc ld e
    have aux : ∀ c, ((h.put b o).get c).live = true → (h.get c).live = true := fun c lc => by
      by_cases e : c = b
      · subst e; exact hlive
      · rw [H.get_put, if_neg e] at lc; exact lc
    exact s.inj c d m k hc hd (aux c lc) (aux d ld) e
  · intro c m hc; rw [H.nx_put]; exact s.nx c m hc
  · intro B hB hX
    by_cases e : B = l.blk
    · subst e; exact (hro (s.wr b l hb hlive hB hX)).elim
    · rw [hother B e]; exact s.old B hB hX
  · rw [hsize]; exact s.size
  · intro c m hc lc hN hX
    by_cases e : c = b
    · subst e; rw [hb] at hc; cases hc; exact (hro (s.wr c _ hb hlive hN hX)).elim
    · rw [H.get_put, if_neg e] at lc ⊢; exact s.wr c m hc lc hN hX
  · exact ⟨henv.1.trans s.env.1, henv.2.1.trans s.env.2.1, henv.2.2.trans s.env.2.2⟩

/-- a block is forgotten -/
theorem Sim.kill (s : Sim G μ h w) (b : Pos) : Sim G μ (h.put b .dead) w := by
  have aux : ∀ c, ((h.put b .dead).get c).live = true → c ≠ b ∧ (h.get c).live = true := fun c lc => by
    by_cases e : c = b
    · subst e; rw [H.get_put, if_pos rfl] at lc; cases lc
    · rw [H.get_put, if_neg e] at lc; exact ⟨e, lc⟩
  refine ⟨?_, ?_, ?_, s.old, s.size, ?_, s.env, s.gl⟩
  · intro c m hc
    rw [H.get_put]; split
    · trivial
    · exact s.obj c m hc
  · intro c d m k hc hd lc ld e; exact s.inj c d m k hc hd (aux c lc).2 (aux d ld).2 e
  · intro c m hc; rw [H.nx_put]; exact s.nx c m hc
  · intro c m hc lc hN hX
    rw [H.get_put, if_neg (aux c lc).1]; exact s.wr c m hc (aux c lc).2 hN hX

/-- the count of draws does not matter -/
theorem Sim.drawn (s : Sim G μ h w) (n : Nat) : Sim G μ h { w with drawn := n } :=
  ⟨fun b l hb => (s.obj b l hb).keep (Inj.le.refl _) (fun _ hy => hy), s.inj, s.nx, s.old, s.size, s.wr, s.env, s.gl⟩
end

end Go.AE
