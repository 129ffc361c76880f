/-
  A part of the abstract evaluator's soundness: its operations agree with the model's. No conditions beyond the theorems' own.
-/
import Derived.Test.YtkmpjokcpboloaaGreatDoorAeR
import Derived.Lib.UnsafeStr
set_option linter.unusedSimpArgs false
set_option linter.unusedVariables false
namespace Go.AE

section
variable {G : Gp} {μ : Inj} {h : H} {w : World} {t : Tr V} {ρ : Operand → Value}

theorem szOf_info {C : Ctx} {t : TypeId} {n : Nat} (h : szOf C t = some n) : C.P.cellsOf t = n := by
  obtain ⟨i, hi, rfl⟩ := szOf_spec h
  simp [Program.cellsOf, hi]

theorem lenV_rel {x : V} {c : Value} {n : Nat} (hx : VRel μ x c) (h : lenV x = some n) : ∀ w : World, (Builtin.lenOf c).run G.C.P w = .ok n w := by
  cases x <;> simp only [lenV] at h <;> (try cases h)
  · cases hx; intro w; rfl
  · obtain ⟨l, m, hl, rfl, _⟩ := hx; intro w; rfl
  · cases hx; intro w; rfl

theorem copyB_rel (s : Sim G μ h w) {ty oty : TypeId} {rest : List TypeId} {d x : V} {cd cx : Value} (hd : VRel μ d cd) (hx : VRel μ x cx) : (copyB G.C h ty d x).any (GivesV G h.nx μ w (Builtin.copy_ ⟨ty :: rest⟩ oty #[cd, cx])) := by
  unfold copyB
  split
  · trivial
  · rename_i e he
    have hu := elemOf_spec he
    split
    · rename_i sz m dl hsz hm hdl
      split
      · trivial
      · rename_i cs hcs
        obtain ⟨xs, hxs, hrun⟩ := firstL_rel s hx hcs
        have hlen := lenV_rel (G := G) hx hm
        have key : ∀ (a : Option Addr) (cap : Nat) (w' : World), cd = .slice a dl cap → ((do if let some a := a then storeCells a xs : Sem Unit)).run G.C.P w = .ok () w' →
            (Builtin.copy_ ⟨ty :: rest⟩ oty #[cd, cx]).run G.C.P w = .ok (.int .i64 (.ofNat (Nat.min m dl))) w' := by
          intro a cap w' ha hst
          subst ha
          have h0 : (#[Value.slice a dl cap, cx])[0]? = some (Value.slice a dl cap) := rfl
          have h1 : (#[Value.slice a dl cap, cx])[1]? = some cx := rfl
          have h2 : (⟨ty :: rest⟩ : Array TypeId)[0]? = some ty := by simp
          unfold Builtin.copy_
          rw [h2, h0, h1]
          cases a with
          | none =>
            simp only [Sem.run_pure, Result.ok.injEq, true_and] at hst
            subst hst
            simp [run_underlying' hu, hlen, run_size hsz, hrun, goInt]
          | some a =>
            simp only at hst
            simp [run_underlying' hu, hlen, run_size hsz, hrun, hst, goInt]
        split
        · have hd' : cd = .slice none 0 0 := hd
          have : dl = 0 := by simp [lenV] at hdl; exact hdl.symm
          subst this
          refine GivesV.pure s (Nat.le_refl _) (c := .int .i64 0) rfl ?_
          rw [key none 0 w hd' (by simp)]
          simp
        · rename_i b off n cap
          obtain ⟨l, mm, hl, rfl, _⟩ := hd
          have : dl = n := by simp [lenV] at hdl; exact hdl.symm
          subst this
          split
          · have hx0 : xs = [] := hxs
            subst hx0
            exact GivesV.pure s (Nat.le_refl _) rfl (key (some ⟨l.blk, l.base + off, none⟩) mm w rfl (by simp [storeCells]))
          · refine R.any_ofH fun h' hs => ?_
            obtain ⟨hnx, w', hsim, hst⟩ := storeL_rel s hl hxs hs
            exact ⟨μ, w', _, Inj.ext.refl _ _, by rw [hnx]; exact Nat.le_refl _, hsim, rfl, key (some ⟨l.blk, l.base + off, none⟩) mm w' rfl (by simp [hst])⟩
        · trivial
    · trivial

theorem zeroCells_eq (z : Array Value) (n : Nat) (hz : z.size ≠ 0) : Builtin.zeroCells z n = ⟨replC n z.toList⟩ := zeros_eq z n hz

theorem clearB_rel (s : Sim G μ h w) {ty oty : TypeId} {rest : List TypeId} {x : V} {c : Value} {d : TypeDesc} (hu0 : und G.C ty = some d) (hx : VRel μ x c) : (clearB G.C h ty x).any (GivesV G h.nx μ w (Builtin.clear_ ⟨ty :: rest⟩ oty #[c])) := by
  have h2 : (⟨ty :: rest⟩ : Array TypeId)[0]? = some ty := by simp
  unfold clearB
  split
  · cases hx
    refine GivesV.pure s (Nat.le_refl _) (c := .tuple #[]) ⟨[], rfl, rfl⟩ ?_
    have h0 : (#[Value.map none])[0]? = some (Value.map none) := rfl
    unfold Builtin.clear_
    rw [h2, h0]
    simp [run_underlying' hu0]
  · cases hx
    refine GivesV.pure s (Nat.le_refl _) (c := .tuple #[]) ⟨[], rfl, rfl⟩ ?_
    have h0 : (#[Value.slice none 0 0])[0]? = some (Value.slice none 0 0) := rfl
    unfold Builtin.clear_
    rw [h2, h0]
    simp [run_underlying' hu0]
  · rename_i r
    obtain ⟨l, hl, rfl⟩ := hx
    split
    · rename_i es clock hg
      have ho := s.obj r l hl
      rw [hg] at ho
      obtain ⟨cs, hb, he⟩ := ho
      refine ⟨μ, _, .tuple #[], Inj.ext.refl _ _, by rw [H.nx_put]; exact Nat.le_refl _, s.setObj hl (by rw [hg]; rfl) (by rw [hg]; exact id) (.map [] clock) (.map #[] clock) (fun w' hw' => ⟨[], hw', rfl⟩), ⟨[], rfl, rfl⟩, ?_⟩
      have h0 : (#[Value.map (some l.blk)])[0]? = some (Value.map (some l.blk)) := rfl
      unfold Builtin.clear_
      rw [h2, h0]
      simp only [Sem.run_bind, run_underlying' hu0, Result.andThen_ok, run_getObj hb (by simp), run_setObj hb (by simp), Sem.run_pure]
    · trivial
  · rename_i b off n cap
    obtain ⟨l, m, hl, rfl, _⟩ := hx
    have h0 : (#[Value.slice (some ⟨l.blk, l.base + off, none⟩) n m])[0]? = some (Value.slice (some ⟨l.blk, l.base + off, none⟩) n m) := rfl
    cases n with
    | zero =>
      refine GivesV.pure (v := .tuple []) s (Nat.le_refl _) (c := .tuple #[]) ⟨[], rfl, rfl⟩ ?_
      unfold Builtin.clear_
      rw [h2, h0]
      simp [run_underlying' hu0]
    | succ k =>
      show R.any _ (match AE.elemOf G.C ty with
        | some e => match zeroV G.C e with
          | some z => R.ofH (.tuple []) (storeL h b off (repl (k + 1) z.cells))
          | none => .fail
        | none => .fail)
      split
      · rename_i e he
        have hu := elemOf_spec he
        split
        · rename_i z hz
          obtain ⟨i, zc, hi, hzc, hzr⟩ := zeroV_spec hz
          have hcl := V.cells_rel (hzr μ)
          refine R.any_ofH fun h' hs => ?_
          obtain ⟨hnx, w', hsim, hst⟩ := storeL_rel s hl (repl_rel hcl (k + 1)) hs
          refine ⟨μ, w', .tuple #[], Inj.ext.refl _ _, by rw [hnx]; exact Nat.le_refl _, hsim, ⟨[], rfl, rfl⟩, ?_⟩
          unfold Builtin.clear_
          rw [h2, h0]
          simp only [Sem.run_bind, run_underlying' hu, Result.andThen_ok, run_zero hi hzc]
          have hzz : (Builtin.zeroCells zc.cells (k + 1)).toList = replC (k + 1) zc.cells.toList := by
            by_cases h0 : zc.cells.size = 0
            · have : zc.cells = #[] := Array.eq_empty_of_size_eq_zero h0
              rw [this]
              have e1 : ∀ n, replC n ([] : List Value) = [] := fun n => by induction n <;> simp [replC, *]
              simp [Builtin.zeroCells, e1]
            · rw [zeroCells_eq _ _ h0]
          rw [hzz, hst]
          simp
        · trivial
      · trivial
  · trivial

theorem deleteB_rel (s : Sim G μ h w) {ty oty : TypeId} {rest : List TypeId} {m k : V} {cm ck : Value} (hm : VRel μ m cm) (hk : VRel μ k ck) : (deleteB G.C h ty m k).any (GivesV G h.nx μ w (Builtin.delete_ ⟨ty :: rest⟩ oty #[cm, ck])) := by
  have h2 : (⟨ty :: rest⟩ : Array TypeId)[0]? = some ty := by simp
  have h0 : (#[cm, ck])[0]? = some cm := rfl
  have h1 : (#[cm, ck])[1]? = some ck := rfl
  unfold deleteB
  split
  · trivial
  · rename_i mt hmt
    obtain ⟨hu, hks⟩ := mapTy_spec hmt
    split
    · have : cm = .map none := hm
      subst this
      split
      · rename_i hok
        refine GivesV.pure s (Nat.le_refl _) (c := .tuple #[]) ⟨[], rfl, rfl⟩ ?_
        have hck := keyOk_check hks hk hok true w
        unfold Builtin.delete_
        rw [h2, h0, h1]
        simp [run_underlying hu, hck]
      · trivial
    · rename_i r
      obtain ⟨l, hl, rfl⟩ := hm
      split
      · rename_i es clock hg
        have ho := s.obj r l hl
        rw [hg] at ho
        obtain ⟨cs, hb, he⟩ := ho
        have hlive : (h.get r).live = true := by rw [hg]; rfl
        have hnro : ¬ (h.get r).ro := by rw [hg]; exact id
        split
        · rename_i i x hok hf
          have hck := keyOk_check hks hk hok (⟨cs⟩ : Array MapEntry).isEmpty w
          obtain ⟨q, hrun, hq⟩ := findKey_rel hks hk hok he hf w
          obtain ⟨v, b⟩ := x
          obtain ⟨e, rfl, hc, _⟩ := found_spec (C := G.C) (mt := mt) hk he hf hq
          refine ⟨μ, _, .tuple #[], Inj.ext.refl _ _, by rw [H.nx_put]; exact Nat.le_refl _, s.setObj hl hlive hnro (.map (es.eraseIdx i) clock) (.map ⟨cs.eraseIdx i⟩ clock) (fun w' hw' => ⟨_, hw', he.eraseIdx i⟩), ⟨[], rfl, rfl⟩, ?_⟩
          unfold Builtin.delete_
          rw [h2, h0, h1]
          have hlt : i < cs.length := (List.getElem?_eq_some_iff.1 hc).1
          have her : (⟨cs⟩ : Array MapEntry).eraseIdxIfInBounds i = ⟨cs.eraseIdx i⟩ := by
            unfold Array.eraseIdxIfInBounds
            rw [dif_pos (by simpa using hlt)]
            simp
          simp only [Sem.run_bind, run_underlying hu, Result.andThen_ok, run_getObj hb (by simp), hck, hrun, her, run_setObj hb (by simp), Sem.run_pure]
        · rename_i hok hf
          have hck := keyOk_check hks hk hok (⟨cs⟩ : Array MapEntry).isEmpty w
          obtain ⟨q, hrun, hq⟩ := findKey_rel hks hk hok he hf w
          cases hq
          have hsame : ({ w with heap := w.heap.setIfInBounds l.blk (.map ⟨cs⟩ clock) } : World) = w := by
            have : w.heap.setIfInBounds l.blk (.map ⟨cs⟩ clock) = w.heap := by
              apply Array.ext_getElem?
              intro j
              by_cases hj : l.blk = j
              · subst hj
                have hlt := (Array.getElem?_eq_some_iff.1 hb).1
                simp [hlt, (Array.getElem?_eq_some_iff.1 hb).2]
              · rw [Array.getElem?_setIfInBounds_ne hj]
            rw [this]
          refine GivesV.pure s (Nat.le_refl _) (c := .tuple #[]) ⟨[], rfl, rfl⟩ ?_
          unfold Builtin.delete_
          rw [h2, h0, h1]
          simp only [Sem.run_bind, run_underlying hu, Result.andThen_ok, run_getObj hb (by simp), hck, hrun, run_setObj hb (by simp), Sem.run_pure, hsame]
        · trivial
      · trivial
    · trivial

/-! a string over a row's bytes -/
theorem run_loadBytes_cells {P : Program} : ∀ (ns : List Int) (b o : Nat) (acc : ByteArray), (∀ j x, ns[j]? = some x → w.cell? ⟨b, o + j, none⟩ = some (.int .u8 x)) →
    (loadBytes ⟨b, o, none⟩ acc ns.length).run P w = .ok ⟨acc.data ++ (ns.map fun n => UInt8.ofNat n.toNat).toArray⟩ w
  | [], b, o, acc, _ => by simp [loadBytes]
  | x :: l, b, o, acc, h => by
    have h0 : w.cell? ⟨b, o, none⟩ = some (.int .u8 x) := h 0 x rfl
    have ih := run_loadBytes_cells (P := P) l b (o + 1) (acc.push (UInt8.ofNat x.toNat)) (fun j y hy => by
      have := h (j + 1) y (by simpa using hy)
      rwa [show o + 1 + j = o + (j + 1) by omega])
    simp only [List.length_cons, loadBytes, Sem.run_bind, run_load, h0, Result.andThen, add_none]
    have e : x.toNat.toUInt8 = UInt8.ofNat x.toNat := rfl
    rw [e, ih]
    congr 1
    apply ByteArray.ext
    simp [ByteArray.push]

theorem freeze_same (a : Addr) (n : Nat) (hn : n ≠ 0) {C : Array Value} {e : TypeId} {lo hi : Nat} (hb : w.heap[a.block]? = some (.cells C e (lo, hi))) :
    (w.freeze a n).heap[a.block]? = some (.cells C e (if lo == hi then (a.off, a.off + n) else (min lo a.off, max hi (a.off + n)))) ∧ (∀ B, B ≠ a.block → (w.freeze a n).heap[B]? = w.heap[B]?) ∧ (w.freeze a n).heap.size = w.heap.size ∧
      (w.freeze a n).os = w.os ∧ (w.freeze a n).output = w.output ∧ (w.freeze a n).tape = w.tape := by
  unfold World.freeze
  rw [if_neg hn]
  have hlt := (Array.getElem?_eq_some_iff.1 hb).1
  have hv := (Array.getElem?_eq_some_iff.1 hb).2
  refine ⟨?_, fun B hB => ?_, by simp, rfl, rfl, rfl⟩
  · simp only [Array.getElem?_modify, if_true]
    rw [Array.getElem?_eq_getElem hlt, hv]; rfl
  · simp only [Array.getElem?_modify]
    rw [if_neg (Ne.symm hB)]

theorem us_none {P : Program} (ty oty : TypeId) (rest : List TypeId) (k : IntKind) : (Builtin.unsafeString_ ⟨ty :: rest⟩ oty #[.pointer none, .int k (0 : Nat)]).run P w = .ok (.string .empty) w := by
  have hmax : IntKind.i64.max = 9223372036854775807 := rfl
  obtain ⟨p1, p2, p3, hdef⟩ : ∃ (p1 p2 : Sem PUnit) (p3 : Sem Value), Builtin.unsafeString_ ⟨ty :: rest⟩ oty #[.pointer none, .int k (0 : Nat)] =
      (do
        let n ← asInt (.int k (0 : Nat))
        if n < 0 then p1
        if n > IntKind.i64.max then p2
        if n = 0 then pure (.string .empty)
        else p3) := ⟨_, _, _, rfl⟩
  rw [hdef]
  simp [asInt, asIntOf, hmax]
theorem us_def (ty oty : TypeId) (rest : List TypeId) (k : IntKind) (a : Addr) (n : Nat) : ∃ (p1 p2 : Sem PUnit) (p3 : Sem Value), Builtin.unsafeString_ ⟨ty :: rest⟩ oty #[.pointer (some a), .int k n] =
      (do
        let n ← asInt (.int k n)
        if n < 0 then p1
        if n > IntKind.i64.max then p2
        if n = 0 then pure (.string .empty)
        else if ← variablesAt a (← Go.elemOf ty) n.toNat then do
          let s ← loadBytes a .empty n.toNat
          freeze a n.toNat
          pure (.string s)
        else p3) := ⟨_, _, _, rfl⟩

theorem usB_rel (s : Sim G μ h w) {ty u oty : TypeId} {rest : List TypeId} {p : V} {cp : Value} {n : Nat} (hu : und G.C ty = some (.pointer u)) (hp : VRel μ p cp) (k : IntKind) :
    (usB G.C h u n p).any (GivesV G h.nx μ w (Builtin.unsafeString_ ⟨ty :: rest⟩ oty #[cp, .int k n])) := by
  have h2 : (⟨ty :: rest⟩ : Array TypeId)[0]? = some ty := by simp
  have hmax : IntKind.i64.max = 9223372036854775807 := rfl
  unfold usB
  split
  · cases hp
    split
    · exact GivesV.pure s (Nat.le_refl _) (c := .string .empty) rfl (us_none _ _ _ _)
    · trivial
  · rename_i b off
    obtain ⟨l, hl, rfl⟩ := hp
    split
    · refine GivesV.pure s (Nat.le_refl _) (c := .string .empty) rfl ?_
      obtain ⟨p1, p2, p3, hdef⟩ := us_def ty oty rest k ⟨l.blk, l.base + off, none⟩ 0
      erw [hdef]
      simp [asInt, asIntOf, hmax]
    · rename_i hn0
      split
      · rename_i cs e g fz hg
        split
        · rename_i hsz
          split
          · rename_i hc
            rw [Bool.and_eq_true, Bool.and_eq_true, beqN, decide_eq_true_eq, bleN, decide_eq_true_eq] at hc
            obtain ⟨⟨rfl, hfr⟩, hle⟩ := hc
            obtain ⟨C, lo, hi, pre, mid, post, r⟩ := obj_cells s hl hg
            cases htk : takeL n (dropL off cs) with
            | none => trivial
            | some l' =>
              cases hbs : mapO byteOf l' with
              | none => simp only [usPut, hbs]; trivial
              | some bs =>
                simp only [usPut, hbs]
                obtain ⟨hrel, hld⟩ := load_seg (G := G) r htk
                obtain ⟨ns, hns, hnb⟩ := bytes_spec _ _ _ hbs hrel
                have hlen : ns.length = n := by
                  have h1 := (VRels.take n (r.vals.drop off) htk).2
                  have : ((mid.drop off).take n).length = n := by simp at h1 ⊢; omega
                  rw [hns] at this; simpa using this
                have hCs : C.size = pre.length + (mid.length + post.length) := by rw [← Array.length_toList, r.split]; simp
                have hoff : off + n ≤ mid.length := by
                  have h1 := (VRels.take n (r.vals.drop off) htk).2
                  have hn : n ≠ 0 := fun h => hn0 h
                  simp at h1; omega
                have hb0 := r.base
                have hcell : ∀ j x, ns[j]? = some x → w.cell? ⟨l.blk, l.base + off + j, none⟩ = some (.int .u8 x) := by
                  intro j x hx
                  have hj : j < n := by rw [← hlen]; exact (List.getElem?_eq_some_iff.1 hx).1
                  rw [Nat.add_assoc, r.cell (off + j) (by omega)]
                  have : ((mid.drop off).take n)[j]? = some (.int .u8 x) := by rw [hns]; simp [hx]
                  rw [List.getElem?_take, if_pos hj, List.getElem?_drop] at this
                  exact this
                have hlb := run_loadBytes_cells (P := G.C.P) ns l.blk (l.base + off) .empty hcell
                rw [hlen] at hlb
                have hcells : G.C.P.cellsOf e = 1 := szOf_info hsz
                have hlies : liesAt G.C.P G.C.P.depth e (C.size / G.C.P.cellsOf e) (l.base + off) e n = true := by
                  have hd : G.C.P.depth = (2 * (G.C.P.types.size + Made.depth) + 1) + 1 := rfl
                  rw [hd]
                  simp only [liesAt, Bool.or_eq_true]
                  left
                  rw [hd]
                  simp [rowAt, hcells, sameLayout]
                  omega
                obtain ⟨f1, f2, f3, f4, f5, f6⟩ := freeze_same (w := w) ⟨l.blk, l.base + off, none⟩ n hn0 r.blk
                refine ⟨μ, w.freeze ⟨l.blk, l.base + off, none⟩ n, .string ⟨⟨bs⟩⟩, Inj.ext.refl _ _, by rw [H.nx_put]; exact Nat.le_refl _, ?_, rfl, ?_⟩
                · refine s.upd hl (by rw [hg]; rfl) (by rw [hg]; simp [O.ro]) _ _ f2 f3 ⟨f4, f5, f6⟩ ?_
                  have hnew : ∃ lo' hi', (if lo == hi then (l.base + off, l.base + off + n) else (min lo (l.base + off), max hi (l.base + off + n))) = (lo', hi') ∧ hi' ≤ l.base + max fz (off + n) := by
                    rcases r.frz with h0 | ⟨h0, h00⟩
                    · cases h0
                    · by_cases heq : lo = hi
                      · exact ⟨l.base + off, l.base + off + n, by simp [heq], by omega⟩
                      · refine ⟨min lo (l.base + off), max hi (l.base + off + n), by simp [heq], ?_⟩
                        rcases h00 with h0' | h0' | h0'
                        · subst h0'; cases hfr
                        · exact (heq h0').elim
                        · omega
                  obtain ⟨lo', hi', hnew, hhi⟩ := hnew
                  exact ⟨C, lo', hi', pre, mid, post, by rw [← hnew]; exact f1, r.split, r.base, r.vals, .inr ⟨fun i hi1 _ => by omega, .inr (.inr hhi)⟩, r.shape⟩
                · have hsh : w.shape? l.blk = some (e, C.size) := by simp [World.shape?, r.blk]
                  have hn : n ≠ 0 := fun h => hn0 h
                  have hn' : ¬ ((n : Int) = 0) := by omega
                  have hbig : ¬ (9223372036854775807 : Int) < (n : Int) := by omega
                  have hva : (variablesAt ⟨l.blk, l.base + off, none⟩ e n).run G.C.P w = .ok true w := by
                    simp only [variablesAt, shape, Sem.run_bind, run_program, Result.andThen_ok, Sem.run, hsh, Sem.run_pure, hlies]
                  have hel : (Go.elemOf ty).run G.C.P w = .ok e w := by simp [Go.elemOf, run_underlying' hu]
                  have hfz : (freeze ⟨l.blk, l.base + off, none⟩ n).run G.C.P w = .ok () (w.freeze ⟨l.blk, l.base + off, none⟩ n) := by simp [freeze, Sem.run]
                  obtain ⟨p1, p2, p3, hdef⟩ := us_def ty oty rest k ⟨l.blk, l.base + off, none⟩ n
                  rw [hdef]
                  have hneg : ¬ ((n : Int) < 0) := by omega
                  simp [asInt, asIntOf, hmax, hn, hneg, hn', hbig, hel, hva, hlb, hfz, hnb]
          · trivial
        · trivial
      · trivial
  · trivial
end
end Go.AE
