/-
  A part of the abstract evaluator's soundness: its operations agree with the model's. No conditions beyond the theorems' own.
-/
import Derived.Test.YtkmpjokcpboloaaGreatDoorAeI
set_option linter.unusedSimpArgs false
set_option linter.unusedVariables false
namespace Go.AE

section
variable {G : Gp} {μ : Inj} {h : H} {w : World} {t : Tr V} {ρ : Operand → Value}

theorem CellsRel.cell {l cs e g fz ro C lo hi pre mid post} (r : CellsRel μ l cs e g fz ro w C lo hi pre mid post) (i : Nat) (hi' : i < mid.length) :
    w.cell? ⟨l.blk, l.base + i, none⟩ = mid[i]? := by
  simp only [World.cell?, r.blk, Option.isSome_none, Bool.false_eq_true, if_false]
  rw [← Array.getElem?_toList, r.split, List.getElem?_append_right (by rw [r.base]; omega), r.base, Nat.add_sub_cancel_left, List.getElem?_append_left hi']

theorem obj_cells (s : Sim G μ h w) {b : Pos} {l : Loc} (hb : μ b = some l) {cs e g fz ro} (hg : h.get b = .cells cs e g fz ro) :
    ∃ C lo hi pre mid post, CellsRel μ l cs e g fz ro w C lo hi pre mid post := by
  have := s.obj b l hb
  rw [hg] at this
  exact this

theorem load_seg {l cs e g fz ro C lo hi pre mid post} (r : CellsRel μ l cs e g fz ro w C lo hi pre mid post) {off n : Nat} {x : List V} (hx : takeL n (dropL off cs) = some x) :
    VRels μ x ((mid.drop off).take n) ∧ (loadCells ⟨l.blk, l.base + off, none⟩ n).run G.C.P w = .ok ⟨(mid.drop off).take n⟩ w := by
  obtain ⟨h1, h2⟩ := VRels.take n (r.vals.drop off) hx
  refine ⟨h1, ?_⟩
  have hlen : ((mid.drop off).take n).length = n := by simp at h2 ⊢; omega
  have := run_loadCells_list (P := G.C.P) w ⟨l.blk, l.base + off, none⟩ ((mid.drop off).take n) (fun j v hj => by
    have hlt : j < n := by
      rcases Nat.lt_or_ge j n with hh | hh
      · exact hh
      · rw [List.getElem?_eq_none (by omega)] at hj; cases hj
    simp at h2
    rw [add_none, Nat.add_assoc, r.cell (off + j) (by omega), ← hj]
    simp [List.getElem?_take, hlt])
  rw [hlen] at this
  exact this

theorem load_rel {l cs e g fz ro C lo hi pre mid post} (r : CellsRel μ l cs e g fz ro w C lo hi pre mid post) {ty : TypeId} {off : Nat} {v : V} (hv : partL G.C ty cs off = some v) :
    ∃ c, VRel μ v c ∧ (loadVar ty ⟨l.blk, l.base + off, none⟩).run G.C.P w = .ok c w := by
  unfold partL at hv
  split at hv
  · rename_i n hn
    split at hv
    · rename_i x hx; cases hv
      obtain ⟨h1, h2⟩ := load_seg (G := G) r hx
      obtain ⟨ha, hs⟩ := isAgg_row (w := w) hn
      exact ⟨_, ⟨_, rfl, h1⟩, by simp [loadVar, ha, run_size hs, h2]⟩
    · cases hv
  · rename_i hn
    obtain ⟨c, hc, hr⟩ := r.vals.get off hv
    have hlt : off < mid.length := by
      rcases Nat.lt_or_ge off mid.length with hh | hh
      · exact hh
      · rw [List.getElem?_eq_none hh] at hc; cases hc
    refine ⟨c, hr, ?_⟩
    have hcell := r.cell off hlt
    rw [hc] at hcell
    simp only [loadVar, Sem.run_bind, isAgg_cell hn, Result.andThen_ok, Bool.false_eq_true, if_false]
    simp [load, Sem.run, hcell]
  · cases hv

theorem cellsAt_spec {b : Pos} {cs : List V} (hc : cellsAt h b = some cs) : ∃ e g fz ro, h.get b = .cells cs e g fz ro := by
  unfold cellsAt at hc
  split at hc
  · rename_i cs' e g fz ro hg; cases hc; exact ⟨e, g, fz, ro, hg⟩
  · cases hc

theorem loadL_rel (s : Sim G μ h w) {b : Pos} {off : Nat} {c : Value} {ty : TypeId} {v : V} (hp : VRel μ (.ptr b off) c) (hv : loadL G.C h ty b off = some v) :
    ∃ d, VRel μ v d ∧ (∃ a, c = .pointer (some a) ∧ (loadVar ty a).run G.C.P w = .ok d w) := by
  unfold loadL at hv
  split at hv
  · rename_i cs hcs
    obtain ⟨e, g, fz, ro, hg⟩ := cellsAt_spec hcs
    obtain ⟨l, hl, rfl⟩ := hp
    obtain ⟨C, lo, hi, pre, mid, post, r⟩ := obj_cells s hl hg
    obtain ⟨d, hd, hr⟩ := load_rel r hv
    exact ⟨d, hd, _, rfl, hr⟩
  · cases hv

/-- the operation reads this value -/
def Reads (G : Gp) (ρ : Operand → Value) (o : Oper) (w : World) (c : Value) : Prop := (execOp ρ o).run G.C.P w = .ok (.value c) w

def ValW (G : Gp) (μ : Inj) (w : World) (s : Sem Value) (v : V) : Prop := ∃ c, VRel μ v c ∧ s.run G.C.P w = .ok c w

theorem reads_of {o : Oper} {v : V} {s : Sem Value} (hs : execOp ρ o = (do pure (.value (← s)))) (h : ValW G μ w s v) : ∃ c, VRel μ v c ∧ Reads G ρ o w c := by
  obtain ⟨c, hv, hr⟩ := h
  exact ⟨c, hv, by unfold Reads; rw [hs]; simp [hr]⟩
theorem ValS.at {s : Sem Value} {v : V} (h : ValS G.C μ s v) : ValW G μ w s v := by
  obtain ⟨c, hv, hr⟩ := h; exact ⟨c, hv, hr w⟩

theorem opLoad_rel (s : Sim G μ h w) {ty : TypeId} {x : V} {c : Value} {v : V} (hx : VRel μ x c) (hv : opLoad G.C h ty (some x) = some v) : ValW G μ w (Instr.loadAt ty c) v := by
  unfold opLoad at hv
  split at hv
  · rename_i b off e; cases e
    obtain ⟨d, hd, a, rfl, hr⟩ := loadL_rel s hx hv
    exact ⟨d, hd, by simp [Instr.loadAt, Instr.sureAddr, hr]⟩
  · cases hv

/-! slicing -/
theorem opOpt_rel {C : Ctx} (hr : OR C μ t ρ) {x : Option Operand} {n : Option Nat} (hh : opOpt C t x = some n) :
    (x = none ∧ n = none) ∨ ∃ y k m, x = some y ∧ n = some m ∧ ρ y = .int k (m : Int) := by
  unfold opOpt at hh
  split at hh
  · cases hh; exact .inl ⟨rfl, rfl⟩
  · rename_i y
    split at hh
    · rename_i v hv
      split at hh
      · rename_i m hm; cases hh
        unfold natOf at hm
        split at hm
        · rename_i k i
          have := natI_eq hm; subst this
          exact .inr ⟨y, k, m, rfl, rfl, hr _ _ hv⟩
        · cases hm
      · cases hh
    · cases hh

def OptV (ρ : Operand → Value) (x : Option Operand) (n : Option Nat) : Prop := (x = none ∧ n = none) ∨ ∃ y k m, x = some y ∧ n = some m ∧ ρ y = .int k (m : Int)

theorem run_bound {P : Program} (k : IntKind) (m y : Nat) (c : BoundsCode) (hle : m ≤ y) (w : World) : (Instr.sliceBound (.int k (m : Int)) y c).run P w = .ok m w := by
  simp only [Instr.sliceBound, asIntOf, Sem.run_bind, Sem.run_pure, Result.andThen_ok]
  rw [if_pos ⟨by omega, by omega⟩]; simp

theorem leO_spec {n m k : Nat} (hh : leO n m = some k) : k = n ∧ n ≤ m := by
  unfold leO at hh; split at hh
  · rename_i hb; rw [bleN, decide_eq_true_eq] at hb; cases hh; exact ⟨rfl, hb⟩
  · cases hh

theorem bnd3_spec {lo : Option Nat} {hh : Nat} {m : Option Nat} {r} (e : bnd3 lo hh m = some r) : ∃ l, r = (l, hh, m) ∧ l ≤ hh ∧ ((lo = none ∧ l = 0) ∨ lo = some l) := by
  unfold bnd3 at e
  split at e
  · cases e; exact ⟨0, rfl, by omega, .inl ⟨rfl, rfl⟩⟩
  · rename_i l
    split at e
    · rename_i l' hl; obtain ⟨rfl, hle⟩ := leO_spec hl; cases e; exact ⟨_, rfl, hle, .inr rfl⟩
    · cases e

theorem bnd_spec {isS : Bool} {len cap cc : Nat} {lo hi mx : Option Nat} {xlo xhi xmx : Option Operand} {l hh : Nat} {m : Option Nat}
    (e : bnd len cap lo hi mx = some (l, hh, m)) (hlo : OptV ρ xlo lo) (hhi : OptV ρ xhi hi) (hmx : OptV ρ xmx mx) (hcap : cap ≤ cc) {P : Program} (w : World) :
    (Instr.sliceBounds isS len cc (xlo.map ρ) (xhi.map ρ) (xmx.map ρ)).run P w = .ok (l, hh, m.getD cc) w ∧ l ≤ hh ∧ (m = none → hi = none → hh = len) ∧ (∀ k, m = some k → hh ≤ k ∧ k ≤ cap) ∧ (m = none → hi.isSome = true → hh ≤ cap) := by
  unfold bnd at e
  split at e
  · rcases hmx with ⟨rfl, _⟩ | ⟨_, _, _, _, hc, _⟩
    · unfold bnd2 at e
      split at e
      · rcases hhi with ⟨rfl, _⟩ | ⟨_, _, _, _, hc, _⟩
        · obtain ⟨l', e', hle, hl⟩ := bnd3_spec e; cases e'
          refine ⟨?_, hle, fun _ _ => rfl, by simp, by simp⟩
          rcases hl with ⟨rfl, rfl⟩ | rfl
          · rcases hlo with ⟨rfl, _⟩ | ⟨_, _, _, _, hc, _⟩
            · simp [Instr.sliceBounds]
            · cases hc
          · rcases hlo with ⟨_, hc⟩ | ⟨y, k, m, rfl, hc, hy⟩
            · cases hc
            · cases hc; simp [Instr.sliceBounds, hy, run_bound k l len .sliceB hle]
        · cases hc
      · rename_i h1
        split at e
        · rename_i h2 hl2
          obtain ⟨rfl, hle2⟩ := leO_spec hl2
          obtain ⟨l', e', hle, hl⟩ := bnd3_spec e; cases e'
          rcases hhi with ⟨_, hc⟩ | ⟨y2, k2, m2, rfl, hc, hy2⟩
          · cases hc
          · cases hc
            refine ⟨?_, hle, by simp, by simp, fun _ _ => hle2⟩
            have hb : ∀ code, (Instr.sliceBound (.int k2 (hh : Int)) cc code).run P w = .ok hh w := fun code => run_bound k2 hh cc code (by omega) w
            rcases hl with ⟨rfl, rfl⟩ | rfl
            · rcases hlo with ⟨rfl, _⟩ | ⟨_, _, _, _, hc, _⟩
              · cases isS <;> simp [Instr.sliceBounds, hy2, hb]
              · cases hc
            · rcases hlo with ⟨_, hc⟩ | ⟨y, k, m, rfl, hc, hy⟩
              · cases hc
              · cases hc; cases isS <;> simp [Instr.sliceBounds, hy, hy2, hb, run_bound k l hh .sliceB hle]
        · cases e
    · cases hc
  · rename_i m0
    split at e
    · cases e
    · rename_i m1 hm1
      obtain ⟨rfl, hlem⟩ := leO_spec hm1
      split at e
      · cases e
      · rename_i h1
        split at e
        · rename_i h2 hl2
          obtain ⟨rfl, hle2⟩ := leO_spec hl2
          obtain ⟨l', e', hle, hl⟩ := bnd3_spec e; cases e'
          rcases hmx with ⟨_, hc⟩ | ⟨y3, k3, m3, rfl, hc, hy3⟩
          · cases hc
          · cases hc
            rcases hhi with ⟨_, hc⟩ | ⟨y2, k2, m2, rfl, hc, hy2⟩
            · cases hc
            · cases hc
              refine ⟨?_, hle, by simp, fun k hk => by cases hk; exact ⟨hle2, hlem⟩, by simp⟩
              have hb : ∀ code, (Instr.sliceBound (.int k3 (m1 : Int)) cc code).run P w = .ok m1 w := fun code => run_bound k3 m1 cc code (by omega) w
              have hb2 : ∀ code, (Instr.sliceBound (.int k2 (hh : Int)) m1 code).run P w = .ok hh w := fun code => run_bound k2 hh m1 code (by omega) w
              rcases hl with ⟨rfl, rfl⟩ | rfl
              · rcases hlo with ⟨rfl, _⟩ | ⟨_, _, _, _, hc, _⟩
                · cases isS <;> simp [Instr.sliceBounds, hy2, hy3, hb, hb2]
                · cases hc
              · rcases hlo with ⟨_, hc⟩ | ⟨y, k, m, rfl, hc, hy⟩
                · cases hc
                · cases hc; cases isS <;> simp [Instr.sliceBounds, hy, hy2, hy3, hb, hb2, run_bound k l hh .slice3C hle]
        · cases e

theorem mkSl_rel {b : Pos} {l : Loc} (hb : μ b = some l) (off sz lo hi m : Nat) :
    VRel μ (mkSl b off sz lo hi m) (.slice (some (if m = lo then ⟨l.blk, l.base + off, none⟩ else (⟨l.blk, l.base + off, none⟩ : Addr).add (lo * sz))) (hi - lo) (m - lo)) := by
  refine ⟨l, m - lo, hb, ?_, rfl⟩
  rw [beqN]
  by_cases e : m = lo
  · simp [e]
  · simp [e, add_none, Nat.add_assoc]

theorem sliceArr_rel {b : Pos} {l : Loc} (hb : μ b = some l) {off sz n : Nat} {lo hi mx : Option Nat} {xlo xhi xmx : Option Operand} {v : V} (hv : sliceArr b off sz n lo hi mx = some v)
    (hlo : OptV ρ xlo lo) (hhi : OptV ρ xhi hi) (hmx : OptV ρ xmx mx) {P : Program} (w : World) :
    ∃ l' h' m', (Instr.sliceBounds false n n (xlo.map ρ) (xhi.map ρ) (xmx.map ρ)).run P w = .ok (l', h', m') w ∧
      VRel μ v (.slice (some (if m' = l' then ⟨l.blk, l.base + off, none⟩ else (⟨l.blk, l.base + off, none⟩ : Addr).add (l' * sz))) (h' - l') (m' - l')) := by
  unfold sliceArr at hv
  split at hv
  · rename_i l' h' m' e; cases hv
    have := bnd_spec (isS := false) e hlo hhi hmx (Nat.le_refl _) (P := P) w
    exact ⟨l', h', m', by simpa using this.1, mkSl_rel hb _ _ _ _ _⟩
  · rename_i l' h' e; cases hv
    have := bnd_spec (isS := false) e hlo hhi hmx (Nat.le_refl _) (P := P) w
    exact ⟨l', h', n, by simpa using this.1, mkSl_rel hb _ _ _ _ _⟩
  · cases hv

theorem opSlice_rel (s : Sim G μ h w) {ty : TypeId} {x : V} {c : Value} {lo hi mx : Option Nat} {xlo xhi xmx : Option Operand} {v : V} (hx : VRel μ x c)
    (hlo : OptV ρ xlo lo) (hhi : OptV ρ xhi hi) (hmx : OptV ρ xmx mx) (hv : sliceV G.C h ty x lo hi mx = some v) : ValW G μ w (Instr.sliceAt ty c (xlo.map ρ) (xhi.map ρ) (xmx.map ρ)) v := by
  unfold sliceV at hv
  split at hv
  · rename_i hu
    split at hv
    · rename_i st
      cases hx
      unfold sliceStr at hv
      split at hv
      · rename_i l' h' m' e; cases hv
        have hx0 : xmx = none := by rcases hmx with ⟨rfl, _⟩ | ⟨_, _, _, _, hc, _⟩ <;> first | rfl | cases hc
        subst hx0
        obtain ⟨h1, h2, _⟩ := bnd_spec (isS := false) (xmx := none) e hlo hhi (.inl ⟨rfl, rfl⟩) (Nat.le_refl _) (P := G.C.P) w
        simp only [Option.map_none] at h1
        refine ⟨_, rfl, ?_⟩
        simp only [Instr.sliceAt, Sem.run_bind, run_underlying' hu, Result.andThen_ok, Instr.slice, Option.map_none, Option.isSome_none, Bool.false_eq_true, if_false, h1, Sem.run_pure]
        congr 2
        apply ByteArray.ext
        apply Array.ext'
        rw [ByteArray.data_extract, Array.toList_extract, List.extract_eq_take_drop]
      · cases hv
    · cases hv
  · rename_i e hu
    split at hv
    · cases hx
      split at hv
      · rename_i sz hsz
        split at hv
        · rename_i r er; cases hv
          obtain ⟨l', h', m'⟩ := r
          obtain ⟨h1, h2, h3, h4, h5⟩ := bnd_spec (isS := true) er hlo hhi hmx (Nat.le_refl _) (P := G.C.P) w
          refine ⟨_, rfl, ?_⟩
          have hz : h' = 0 ∧ m'.getD 0 = 0 := by
            cases m' with
            | none =>
              refine ⟨?_, rfl⟩
              cases hi with
              | none => exact h3 rfl rfl
              | some k => have := h5 rfl rfl; omega
            | some k => obtain ⟨a, b⟩ := h4 k rfl; exact ⟨by omega, by simp; omega⟩
          obtain ⟨rfl, hm⟩ := hz
          have hl : l' = 0 := by omega
          subst hl
          rw [hm] at h1
          simp only [Instr.sliceAt, Sem.run_bind, run_underlying' hu, Result.andThen_ok, Instr.slice, h1, run_size hsz, Sem.run_pure]
          rfl
        · cases hv
      · cases hv
    · rename_i b off len cap
      split at hv
      · rename_i sz hsz
        obtain ⟨l, m, hl, rfl, hcap⟩ := hx
        unfold sliceSl at hv
        split at hv
        · rename_i cc
          simp only at hcap; subst hcap
          split at hv
          · rename_i l' h' m' er; cases hv
            have := bnd_spec (isS := true) er hlo hhi hmx (Nat.le_refl _) (P := G.C.P) w
            refine ⟨_, mkSl_rel hl _ _ _ _ _, ?_⟩
            have h1 := this.1
            simp only [Option.getD_some] at h1
            simp only [Instr.sliceAt, Sem.run_bind, run_underlying' hu, Result.andThen_ok, Instr.slice, h1, run_size hsz, Sem.run_pure]
            split <;> simp
          · rename_i l' h' er; cases hv
            have := bnd_spec (isS := true) er hlo hhi hmx (Nat.le_refl _) (P := G.C.P) w
            refine ⟨_, mkSl_rel hl _ _ _ _ _, ?_⟩
            have h1 := this.1
            simp only [Option.getD_none] at h1
            simp only [Instr.sliceAt, Sem.run_bind, run_underlying' hu, Result.andThen_ok, Instr.slice, h1, run_size hsz, Sem.run_pure]
            split <;> simp
          · cases hv
        · split at hv
          · rename_i v' hv'
            cases hv
            unfold sliceTight at hv'
            split at hv'
            · rename_i l' h' m' er; cases hv'
              have := bnd_spec (isS := true) er hlo hhi hmx hcap.2.1 (P := G.C.P) w
              refine ⟨_, mkSl_rel hl _ _ _ _ _, ?_⟩
              have h1 := this.1
              simp only [Option.getD_some] at h1
              simp only [Instr.sliceAt, Sem.run_bind, run_underlying' hu, Result.andThen_ok, Instr.slice, h1, run_size hsz, Sem.run_pure]
              split <;> simp
            · cases hv'
          rename_i hno
          clear hno
          unfold sliceLoose at hv
          split at hv
          · rename_i cs e' z fz ro hg
            split at hv
            · cases hv
            · rename_i hz; rw [beqN, decide_eq_true_eq] at hz
              obtain ⟨C, lo', hi', pre, mid, post, r⟩ := obj_cells s hl hg
              obtain ⟨hesz, ⟨n, hn⟩, htot⟩ := r.shape
              have hpos : 0 < z + 1 := by omega
              generalize z + 1 = z at *
              subst hz
              obtain ⟨_, hnm, q, hq, hqm⟩ := hcap
              rw [hesz] at hq
              subst hq
              have hml := r.vals.length
              have hle : (cs.length - q * z) / z ≤ m := by
                rw [hn, ← Nat.sub_mul, Nat.mul_div_cancel _ hpos]
                have : n * z ≤ l.cap * z := by omega
                have := Nat.le_of_mul_le_mul_right this hpos
                omega
              split at hv
              · rename_i l' h' m' er; cases hv
                have := bnd_spec (isS := true) er hlo hhi hmx hle (P := G.C.P) w
                refine ⟨_, mkSl_rel hl _ _ _ _ _, ?_⟩
                have h1 := this.1
                simp only [Option.getD_some] at h1
                simp only [Instr.sliceAt, Sem.run_bind, run_underlying' hu, Result.andThen_ok, Instr.slice, h1, run_size hsz, Sem.run_pure]
                split <;> simp
              · rename_i l' h' er
                have hb := bnd_spec (isS := true) er hlo hhi hmx hle (P := G.C.P) w
                have h1 := hb.1
                simp only [Option.getD_none] at h1
                have hcond : (l' < (cs.length - q * z) / z ∨ l' = 0) ∧ v = .slice b (q * z + l' * z) (h' - l') none := by
                  split at hv
                  · cases hv
                  · rename_i x y hxy
                    cases hv
                    refine ⟨?_, rfl⟩
                    rw [bltN, beqN] at hxy
                    by_cases ha : l' < (cs.length - q * z) / z
                    · exact .inl ha
                    · by_cases hb : l' = 0
                      · exact .inr hb
                      · exact (hxy (by simp [ha]) (by simp [hb])).elim
                obtain ⟨hc, rfl⟩ := hcond
                have hlm : l' ≤ m := by
                  rcases hc with hc | hc <;> omega
                have hhm : h' ≤ m := by
                  cases hi with
                  | none => rw [hb.2.2.1 rfl rfl]; exact hnm
                  | some k => have := hb.2.2.2.2 rfl rfl; omega
                refine ⟨_, ⟨l, m - l', hl, rfl, by rw [hesz]; omega, by omega, q + l', by rw [hesz, Nat.add_mul], by omega⟩, ?_⟩
                simp only [Instr.sliceAt, Sem.run_bind, run_underlying' hu, Result.andThen_ok, Instr.slice, h1, run_size hsz, Sem.run_pure, Option.map_some, add_none]
                split
                · rename_i e; rcases hc with hc | hc
                  · omega
                  · subst hc; simp
                · rw [Nat.add_assoc]
              · cases hv
          · cases hv
      · cases hv
    · cases hv
  · rename_i n e hu
    split at hv
    · rename_i b off
      split at hv
      · rename_i sz hsz
        obtain ⟨l, hl, rfl⟩ := hx
        obtain ⟨l', h', m', h1, h2⟩ := sliceArr_rel hl hv hlo hhi hmx (P := G.C.P) w
        refine ⟨_, h2, ?_⟩
        simp only [Instr.sliceAt, Sem.run_bind, run_underlying' hu, Result.andThen_ok, Instr.sureAddr, Sem.run_pure, h1, run_size hsz]
      · cases hv
    · cases hv
  · rename_i arr hu
    split at hv
    · rename_i b off
      split at hv
      · rename_i n e hu2
        split at hv
        · rename_i sz hsz
          obtain ⟨l, hl, rfl⟩ := hx
          obtain ⟨l', h', m', h1, h2⟩ := sliceArr_rel hl hv hlo hhi hmx (P := G.C.P) w
          refine ⟨_, h2, ?_⟩
          simp only [Instr.sliceAt, Sem.run_bind, run_underlying' hu, Result.andThen_ok, Instr.slice, asAddr, Sem.run_pure, run_underlying' hu2, h1, run_size hsz]
        · cases hv
      · cases hv
    · cases hv
  · cases hv
end
end Go.AE
