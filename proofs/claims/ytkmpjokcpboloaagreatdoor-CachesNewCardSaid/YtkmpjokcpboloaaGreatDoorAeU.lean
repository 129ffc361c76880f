/-
  A part of the abstract evaluator's soundness: its operations agree with the model's. No conditions beyond the theorems' own.
-/
import Derived.Test.YtkmpjokcpboloaaGreatDoorAeT
set_option linter.unusedSimpArgs false
set_option linter.unusedVariables false
namespace Go.AE

section
variable {G : Gp} {μ : Inj} {h : H} {w : World} {t : Tr V} {ρ : Operand → Value}

/-- a row goes on under a new name -/
theorem Sim.move (s : Sim G μ h w) {b : Pos} {l l' : Loc} (hb : μ b = some l) (hlive : (h.get b).live = true) (hro : ¬ (h.get b).ro) (o : O) (w' : World) (hblk : l'.blk = l.blk)
    (hother : ∀ B, B ≠ l.blk → w'.heap[B]? = w.heap[B]?) (hsize : w'.heap.size = w.heap.size) (henv : w'.os = w.os ∧ w'.output = w.output ∧ w'.tape = w.tape)
    (ho : ORel (μ.set h.nx l') l' o w') : Sim G (μ.set h.nx l') ((h.add o).put b .dead) w' := by
  have hfr := s.fresh
  have hle : μ.le (μ.set h.nx l') := Inj.le_set l' hfr
  have hbn : b ≠ h.nx := fun e => by rw [e, hfr] at hb; cases hb
  have get : ∀ c, ((h.add o).put b .dead).get c = if c = b then .dead else if c = h.nx then o else h.get c := fun c => by
    rw [H.get_put]; split
    · rfl
    · rw [H.get_add]
  -- a live name other than the new one is an old one, at another block
  have old : ∀ c m, c ≠ h.nx → (μ.set h.nx l') c = some m → (((h.add o).put b .dead).get c).live = true → μ c = some m ∧ c ≠ b ∧ (h.get c).live = true ∧ m.blk ≠ l.blk := by
    intro c m hc hm hl
    rw [Inj.set_other _ _ hc] at hm
    rw [get] at hl
    by_cases e : c = b
    · rw [if_pos e] at hl; cases hl
    · rw [if_neg e, if_neg hc] at hl
      exact ⟨hm, e, hl, fun e' => e (s.inj c b m l hm hb hl hlive e')⟩
  refine ⟨?_, ?_, ?_, ?_, ?_, ?_, ?_, ?_⟩
  · intro c m hc
    by_cases e : c = h.nx
    · subst e; rw [Inj.set_self] at hc; cases hc
      rw [get, if_neg (Ne.symm hbn), if_pos rfl]; exact ho
    · by_cases hl : (((h.add o).put b .dead).get c).live = true
      · obtain ⟨hm, hcb, _, hne⟩ := old c m e hc hl
        rw [get, if_neg hcb, if_neg e]
        exact (s.obj c m hm).keep hle fun x hx => by rw [hother _ hne]; exact hx
      · have : ((h.add o).put b .dead).get c = .dead := by
          cases hh : ((h.add o).put b .dead).get c <;> simp [hh, O.live] at hl ⊢
        rw [this]; trivial
  · intro c d m k hc hd lc ld e
    have aux : ∀ c d m k, c = h.nx → d ≠ h.nx → (μ.set h.nx l') c = some m → (μ.set h.nx l') d = some k → (((h.add o).put b .dead).get d).live = true → m.blk = k.blk → False := by
      intro c d m k ec ed hc hd ld e
      subst ec
      rw [Inj.set_self] at hc; cases hc
      obtain ⟨_, _, _, hne⟩ := old d k ed hd ld
      exact hne (by rw [← e, hblk])
    by_cases ec : c = h.nx <;> by_cases ed : d = h.nx
    · rw [ec, ed]
    · exact (aux c d m k ec ed hc hd ld e).elim
    · exact (aux d c k m ed ec hd hc lc e.symm).elim
    · obtain ⟨h1, _, h3, _⟩ := old c m ec hc lc
      obtain ⟨h4, _, h6, _⟩ := old d k ed hd ld
      exact s.inj c d m k h1 h4 h3 h6 e
  · intro c m hc
    rw [H.nx_put, H.nx_add, Pos.toNat_succ]
    by_cases e : c = h.nx
    · subst e; omega
    · rw [Inj.set_other _ _ e] at hc; have := s.nx c m hc; omega
  · intro B hB hX
    by_cases e : B = l.blk
    · subst e; exact (hro (s.wr b l hb hlive hB hX)).elim
    · rw [hother B e]; exact s.old B hB hX
  · rw [hsize]; exact s.size
  · intro c m hc lc hN hX
    by_cases e : c = h.nx
    · subst e; rw [Inj.set_self] at hc; cases hc
      rw [hblk] at hN hX
      exact (hro (s.wr b l hb hlive hN hX)).elim
    · obtain ⟨h1, h2, h3, _⟩ := old c m e hc lc
      rw [get, if_neg h2, if_neg e]; exact s.wr c m h1 h3 hN hX
  · exact ⟨henv.1.trans s.env.1, henv.2.1.trans s.env.2.1, henv.2.2.trans s.env.2.2⟩
  · intro g hg; obtain ⟨m, hm, e⟩ := s.gl g hg; exact ⟨m, hle _ _ hm, e⟩

/-- a new row behind a growth -/
theorem grown_rel (s : Sim G μ h w) {e : TypeId} {sz len c k : Nat} (hz : 0 < sz) {cs : List V} {xs post : List Value} (hr : VRels μ cs xs) (hl : xs.length = len * sz) (hc : len ≤ c) (hp : post.length = (c - len) * sz) (fz : Nat)
    {sm : Sem Value} (hs : sm.run G.C.P w = .ok (.slice (some ⟨w.heap.size, 0, none⟩) len c) { w with drawn := k, heap := w.heap.push (.cells ⟨xs ++ post⟩ e) }) :
    GivesV G h.nx μ w sm (.slice h.nx 0 len none) (h.add (.cells cs e (some sz) fz false)) := by
  have s' := s.drawn k
  let l : Loc := ⟨w.heap.size, 0, c, sz⟩
  obtain ⟨sz', rfl⟩ : ∃ z, sz = z + 1 := ⟨sz - 1, by omega⟩
  have hlen := hr.length
  obtain ⟨hle, hsim⟩ := s'.new (.cells cs e (some (sz' + 1)) fz false) (.cells ⟨xs ++ post⟩ e) l rfl
    ⟨_, 0, 0, [], xs, post, push_get _ _, by simp, rfl, VRels.mono (Inj.le_set _ s.fresh) _ _ hr, .inr ⟨fun i _ _ => by omega, .inr (.inl rfl)⟩,
      rfl, ⟨len, by rw [hlen, hl]⟩, by rw [hl, hp, ← Nat.add_mul]; show _ = c * (sz' + 1); congr 1; omega⟩
  exact ⟨_, _, _, Inj.ext.set l s.fresh (Nat.le_refl _), by rw [H.nx_add, Pos.toNat_succ]; omega, hsim, ⟨l, c, Inj.set_self _ _ _, by simp [l], by simp [l], hc, 0, by simp [l], by simp [l]⟩, hs⟩

theorem firstL_relK (s : Sim G μ h w) {sz n : Nat} {x : V} {c : Value} {l : List V} (hx : VRel μ x c) (hl : firstL h sz n x = some l) :
    ∃ cs, VRels μ l cs ∧ ∀ k, (Builtin.firstCells sz n c).run G.C.P { w with drawn := k } = .ok ⟨cs⟩ { w with drawn := k } := by
  unfold firstL at hl
  split at hl
  · cases hl; cases hx; exact ⟨[], rfl, fun k => by simp [Builtin.firstCells]⟩
  · rename_i b off len cap
    split at hl
    · rename_i cs hcs
      obtain ⟨e, g, fz, ro, hg⟩ := cellsAt_spec hcs
      obtain ⟨lc, m, hlc, rfl, _⟩ := hx
      obtain ⟨C, lo, hi, pre, mid, post, r⟩ := obj_cells s hlc hg
      refine ⟨_, (load_seg (G := G) r hl).1, fun k => ?_⟩
      have r' : CellsRel μ lc cs e g fz ro { w with drawn := k } C lo hi pre mid post := ⟨r.blk, r.split, r.base, r.vals, r.frz, r.shape⟩
      simp [Builtin.firstCells, (load_seg (G := G) r' hl).2]
    · cases hl
  · rename_i st
    have hc : c = .string st := hx
    subst hc
    refine ⟨((st.extract 0 n).data.map fun b => Value.int .u8 b.toNat).toList, ?_, fun k => by show Result.ok _ _ = Result.ok _ _; rfl⟩
    split at hl
    case h_2 => cases hl
    cases hl
    rw [Array.toList_map, ByteArray.data_extract, Array.toList_extract, List.extract_eq_take_drop]
    simp only [List.drop_zero, Nat.sub_zero]
    generalize st.data.toList.take n = bs
    induction bs with
    | nil => rfl
    | cons b bs ih => exact VRels.cons rfl ih
  · cases hl

theorem GivesV.kill {nx : Pos} {sm : Sem Value} {v : V} {h' : H} (b : Pos) (g : GivesV G nx μ w sm v h') : GivesV G nx μ w sm v (h'.put b .dead) := by
  obtain ⟨μ', w', c, h1, h2, h3, h4, h5⟩ := g
  exact ⟨μ', w', c, h1, by rw [H.nx_put]; exact h2, h3.kill b, h4, h5⟩

theorem appendG_rel (s : Sim G μ h w) {ty tx oty e : TypeId} {rest : List TypeId} {sz n : Nat} {sv : V} {cs cx : Value} (hu : und G.C ty = some (.slice e)) (hsz : szOf G.C e = some (sz + 1)) (hsv : VRel μ sv cs)
    {new : List V} {news : List Value} (hn0 : 0 < n) (hnew : VRels μ new news) (hlen : news.length = n * (sz + 1))
    (ha : ∀ i z, G.C.P.info? e = some i → i.zero = some z → n * i.bytes ≤ 140737488355328 → z.cells.size = sz + 1 → Apd G.C.P i z tx cx n news w) :
    (appendG G.C h e (sz + 1) n sv new).any (GivesV G h.nx μ w (Builtin.append_ ⟨ty :: tx :: rest⟩ oty #[cs, cx])) := by
  unfold appendG
  split
  case h_2 => trivial
  rename_i hg
  unfold grows at hg
  split at hg
  case h_2 => cases hg
  rename_i i z len hi hz hl
  rw [Bool.and_eq_true, Bool.and_eq_true, bleN, bleN, beqN, decide_eq_true_eq, decide_eq_true_eq, decide_eq_true_eq] at hg
  obtain ⟨⟨hb1, hb2⟩, hzl⟩ := hg
  have hi' : G.C.P.info? e = some i := hi
  obtain ⟨i', zc, hi2, hzc, hzr⟩ := zeroV_spec hz
  rw [hi'] at hi2; cases hi2
  have his : i.size = sz + 1 := by obtain ⟨i2, h1, h2⟩ := szOf_spec hsz; rw [hi'] at h1; cases h1; exact h2
  have hzs : zc.cells.size = sz + 1 := by have := (V.cells_rel (hzr μ)).length; rw [hzl] at this; simpa using this.symm
  have hnb : n * i.bytes ≤ 140737488355328 := Nat.le_trans (Nat.mul_le_mul_right _ (Nat.le_add_left _ _)) hb1
  have hA := ha i zc hi' hzc hnb hzs
  have hu' : G.C.P.underlying ty = some (.slice e) := hu
  -- the growth
  have grow : ∀ (base : Option Addr) (sCap : Nat) (olds : List Value), cs = .slice base len sCap → (∀ k, (Builtin.firstCells i.size len (.slice base len sCap)).run G.C.P { w with drawn := k } = .ok ⟨olds⟩ { w with drawn := k }) →
      sCap < len + n → ∀ (old : List V), VRels μ old olds → olds.length = len * (sz + 1) → ∀ fz, GivesV G h.nx μ w (Builtin.append_ ⟨ty :: tx :: rest⟩ oty #[cs, cx]) (.slice h.nx 0 (len + n) none) (h.add (.cells (old ++ new) e (some (sz + 1)) fz false)) := by
    intro base sCap olds hcs hold hlt old hor hol fz
    subst hcs
    obtain ⟨c, k, hc, hrun⟩ := run_app_grow (oty := oty) (rest := rest) hu' hi' hzc hA hold hlt hb2 hb1 (by rw [hzs]; omega)
    refine grown_rel s (k := k) (by omega) (xs := olds ++ news) (post := replC (c - (len + n)) zc.cells.toList) (VRels.append hor hnew) ?_ hc ?_ fz ?_
    · rw [List.length_append, hol, hlen, ← Nat.add_mul]
    · rw [replC_length]; simp [hzs]
    · rw [hrun, List.append_assoc]
  unfold appendNew
  split
  case h_1 => trivial
  rename_i hok
  split
  · -- nothing before
    have hcs : cs = .slice none 0 0 := hsv
    have hl0 : len = 0 := by simp [lenV] at hl; exact hl.symm
    subst hl0
    rw [newR_eq]
    have := grow none 0 [] hcs (fun k => by simp [Builtin.firstCells]) (by omega) [] rfl (by simp) 0
    simp only [Nat.zero_add, List.nil_append] at this
    exact this
  · rename_i b off len' cap
    have hl0 : len' = len := by simp [lenV] at hl; exact hl
    subst hl0
    obtain ⟨l, m, hlb, hcs, hcap⟩ := hsv
    have room : ∀ (h' : H) (cp : Option Nat), storeL h b (off + len' * (sz + 1)) new = some h' → len' + n ≤ m → VRel μ (.slice b off (len' + n) cp) (.slice (some ⟨l.blk, l.base + off, none⟩) (len' + n) m) →
        GivesV G h.nx μ w (Builtin.append_ ⟨ty :: tx :: rest⟩ oty #[cs, cx]) (.slice b off (len' + n) cp) h' := by
      intro h' cp hst hle hv
      subst hcs
      obtain ⟨hnx, w', hsim, hrun⟩ := storeL_rel s hlb hnew hst
      refine ⟨μ, w', _, Inj.ext.refl _ _, by rw [hnx]; exact Nat.le_refl _, hsim, hv, ?_⟩
      refine run_app_room hu' hi' (fun _ => hzc) hA hle (fun a ha => ?_) (by simp)
      simp only [Option.some.injEq] at ha
      subst ha
      rw [add_none, his, Nat.add_assoc]
      exact hrun
    unfold appendSl
    split
    · -- the capacity is known
      rename_i c
      have hm : m = c := hcap
      subst hm
      split
      · rename_i hle
        rw [bleN, decide_eq_true_eq] at hle
        exact R.any_ofH fun h' hst => room h' _ hst hle ⟨l, m, hlb, rfl, rfl⟩
      · rename_i hle
        rw [bleN, decide_eq_false_iff_not] at hle
        split
        · rename_i old hold
          have hx : VRel μ (.slice b off len' (some m)) cs := ⟨l, m, hlb, hcs, rfl⟩
          have hol : old.length = len' * (sz + 1) := by
            simp only [firstL] at hold
            split at hold
            · rw [takeL_eq] at hold
              split at hold
              · rename_i hle2; cases hold
                rw [List.length_take]; omega
              · cases hold
            · cases hold
          obtain ⟨olds, hor, hrun⟩ := firstL_relK s hx hold
          unfold grown
          split
          · rw [newR_eq]
            refine grow _ m olds hcs (fun k => ?_) (by omega) old hor (by rw [← hor.length, hol]) 0
            rw [his, ← hcs]; exact hrun k
          · trivial
        · trivial
    · -- it is not
      split
      case h_2 => trivial
      rename_i cl e' z fz hgb
      split
      · trivial
      · rename_i hz
        rw [Bool.and_eq_true, beqN, beqN, decide_eq_true_eq, decide_eq_true_eq] at hz
        obtain ⟨hz, rfl⟩ := hz
        have hz' : z = sz := by omega
        subst hz'
        obtain ⟨C, lo, hi0, pre, mid, post, r⟩ := obj_cells s hlb hgb
        obtain ⟨hesz, ⟨kk, hkk⟩, htot⟩ := r.shape
        obtain ⟨_, hlm, q, hq, hqm⟩ := hcap
        rw [hesz] at hq
        have hml := r.vals.length
        unfold appendAt
        split
        · rename_i hle
          rw [bleN, decide_eq_true_eq] at hle
          refine R.any_ofH fun h' hst => room h' none hst ?_ ⟨l, m, hlb, rfl, by rw [hesz]; omega, ?_, q, by rw [hesz]; exact hq, hqm⟩
          all_goals
            have h1 : (q + (len' + n)) * (z + 1) ≤ l.cap * (z + 1) := by rw [Nat.add_mul, ← hq, ← htot]; omega
            have := Nat.le_of_mul_le_mul_right h1 (by omega)
            omega
        · split
          · rename_i hc
            rw [Bool.and_eq_true, Bool.and_eq_true, beqN, bleN, decide_eq_true_eq, decide_eq_true_eq] at hc
            obtain ⟨⟨hend, hokd⟩, hfz⟩ := hc
            rw [newR_eq]
            show GivesV G h.nx μ w _ _ _
            have hdr : VRels μ (dropL off cl) (mid.drop off) := r.vals.drop off
            have hdl : (mid.drop off).length = len' * (z + 1) := by rw [List.length_drop, ← hml, ← hend]; omega
            by_cases hin : len' + n ≤ m
            · -- in place
              let l' : Loc := ⟨l.blk, l.base + off, m, z + 1⟩
              have hCs : C.size = pre.length + (mid.length + post.length) := by rw [← Array.length_toList, r.split]; simp
              have hb0 := r.base
              have hpost : post.length = m * (z + 1) - len' * (z + 1) ∧ news.length ≤ post.length := by
                have e1 : l.cap * (z + 1) = q * (z + 1) + m * (z + 1) := by rw [← hqm, Nat.add_mul]
                have e2 : (len' + n) * (z + 1) ≤ m * (z + 1) := Nat.mul_le_mul_right _ hin
                rw [Nat.add_mul] at e2
                rw [hlen]
                omega
              have hsplit : (C.toList.take (l.base + off + len' * (z + 1) + 0) ++ news ++ C.toList.drop (l.base + off + len' * (z + 1) + 0 + news.length)) = (pre ++ mid.take off) ++ ((mid.drop off ++ news) ++ post.drop news.length) := by
                have e1 : l.base + off + len' * (z + 1) + 0 = pre.length + mid.length := by omega
                rw [e1, r.split, ← List.append_assoc pre mid post, List.take_append_of_le_length (by simp), List.take_of_length_le (by simp), List.drop_append, List.drop_of_length_le (by simp)]
                have e2 : pre.length + mid.length + news.length - (pre ++ mid).length = news.length := by simp
                rw [e2]
                simp only [List.nil_append, List.append_assoc]
                rw [← List.append_assoc (mid.take off), List.take_append_drop]
              have hst : (storeCells ⟨l.blk, l.base + off + len' * (z + 1), none⟩ news).run G.C.P w = .ok () (w.setRow l.blk ⟨(pre ++ mid.take off) ++ ((mid.drop off ++ news) ++ post.drop news.length)⟩) := by
                rw [← hsplit]
                refine store_row G.C.P l.blk (l.base + off + len' * (z + 1)) _ (lo, hi0) news 0 C w r.blk (fun j h1 h2 => ?_) (by omega) (okCells_one hok hnew)
                rcases r.frz with h0 | ⟨h0, _⟩
                · cases h0
                · have := h0 (j - l.base) (by omega) (by omega)
                  rwa [show l.base + (j - l.base) = j by omega] at this
              refine ⟨_, _, .slice (some ⟨l.blk, l.base + off, none⟩) (len' + n) m, Inj.ext.set l' s.fresh (Nat.le_refl _), ?_,
                s.move hlb (by rw [hgb]; rfl) (by rw [hgb]; simp [O.ro]) _ (w.setRow l.blk ⟨(pre ++ mid.take off) ++ ((mid.drop off ++ news) ++ post.drop news.length)⟩) (l' := l') rfl (fun B hB => setRow_other w _ hB) (by simp) ⟨rfl, rfl, rfl⟩ ?_,
                ⟨l', m, Inj.set_self _ _ _, by simp [l'], by simp [l'], hin, 0, by simp [l'], by simp [l']⟩, ?_⟩
              · rw [H.nx_put, H.nx_add, Pos.toNat_succ]; omega
              · refine ⟨_, lo, hi0, pre ++ mid.take off, mid.drop off ++ news, post.drop news.length, setRow_heap w _ _ _ _ _ r.blk, rfl, by simp [l']; omega, VRels.mono (Inj.le_set _ s.fresh) _ _ (VRels.append hdr hnew), ?_, rfl, ⟨len' + n, ?_⟩, ?_⟩
                · rcases r.frz with h0 | ⟨h0, h00⟩
                  · cases h0
                  · refine .inr ⟨fun i hi1 hlt => ?_, ?_⟩
                    · have := h0 (off + i) (by omega) (by simp [l'] at hlt ⊢; omega)
                      simpa [l', Nat.add_assoc] using this
                    · rcases h00 with h00 | h00 | h00
                      · cases h00
                      · exact .inr (.inl h00)
                      · refine .inr (.inr ?_); simp only [l']; omega
                · rw [List.length_append, hdr.length, hnew.length, hdl, hlen, ← Nat.add_mul]
                · simp only [l', List.length_append, List.length_drop]
                  rw [List.length_drop] at hdl
                  have hmul : len' * (z + 1) ≤ m * (z + 1) := Nat.mul_le_mul_right _ hlm
                  omega
              · subst hcs
                refine run_app_room hu' hi' (fun _ => hzc) hA hin (fun a ha => ?_) (by simp)
                simp only [Option.some.injEq] at ha
                subst ha
                rw [add_none, his]
                exact hst
            · -- a new row
              have hx : VRel μ (.slice b off len' none) cs := ⟨l, m, hlb, hcs, by rw [hesz]; omega, hlm, q, by rw [hesz]; exact hq, hqm⟩
              have hf : firstL h (z + 1) len' (.slice b off len' none) = some (dropL off cl) := by
                simp only [firstL, cellsAt, hgb]
                rw [takeL_eq, dropL_eq]
                have : (cl.drop off).length = len' * (z + 1) := by rw [List.length_drop]; omega
                rw [if_pos (by omega), List.take_of_length_le (by omega)]
              obtain ⟨olds, hor, hrun⟩ := firstL_relK s hx hf
              have hol : olds.length = len' * (z + 1) := by rw [← hor.length, hdr.length, hdl]
              exact (grow _ m olds hcs (fun k => by rw [his, ← hcs]; exact hrun k) (by omega) (dropL off cl) hor hol (fz - off)).kill b
          · trivial
  · trivial
end
end Go.AE
