/-
  A part of the abstract evaluator's soundness: its operations agree with the model's. No conditions beyond the theorems' own.
-/
import Derived.Test.YtkmpjokcpboloaaGreatDoorAeJ
set_option linter.unusedSimpArgs false
set_option linter.unusedVariables false
namespace Go.AE

section
variable {G : Gp} {μ : Inj} {h : H} {w : World} {t : Tr V} {ρ : Operand → Value}

theorem run_getObj {P : Program} {r : Nat} {o : Obj} (ho : w.heap[r]? = some o) (hc : ∀ c e f, o ≠ .cells c e f) : (getObj r).run P w = .ok o w := by
  simp only [getObj, Sem.run, ho]

/-! len, cap, min, max, unsafe.SliceData -/
theorem exec_builtin {o : Oper} {b : Builtin} {args : Array Operand} {ats : Array TypeId} (ho : o.op = .call ⟨.builtin b, args, ats⟩) :
    execOp ρ o = builtin b ats o.type (args.map fun | .const _ => true | _ => false) (args.map ρ) := by
  simp only [execOp, ho, resolve]
  rfl

theorem ERels.length : ∀ {a : List (V × V × Nat)} {b}, ERels μ a b → a.length = b.length
  | [], _, hh => by cases hh; rfl
  | _ :: _, _, ⟨_, _, e, _, hs⟩ => by subst e; simp [ERels.length hs]

theorem goNat (n : Nat) : goInt n = .int .i64 (.ofNat n) := rfl

theorem lenB_rel (s : Sim G μ h w) {ty oty : TypeId} {x : V} {c : Value} {v : V} (hx : VRel μ x c) (hv : lenB G.C h ty x = some v) : ValW G μ w (Builtin.len_ #[ty] oty #[c]) v := by
  unfold lenB at hv
  split at hv
  · rename_i hu
    split at hv
    · cases hv; cases hx; exact ⟨_, rfl, by simp [Builtin.len_, run_underlying' hu, goNat]⟩
    · cases hv
  · rename_i e hu
    split at hv
    · cases hv; obtain ⟨l, m, hl, rfl, _⟩ := hx; exact ⟨_, rfl, by simp [Builtin.len_, run_underlying' hu, goNat]⟩
    · cases hv; cases hx; exact ⟨_, rfl, by simp [Builtin.len_, run_underlying' hu, goInt]⟩
    · cases hv
  · rename_i k e hu
    split at hv
    · cases hv; cases hx; exact ⟨_, rfl, by simp [Builtin.len_, run_underlying' hu, goInt]⟩
    · split at hv
      · rename_i r es clock hg; cases hv; obtain ⟨l, hl, rfl⟩ := hx
        have := s.obj _ _ hl
        rw [hg] at this
        obtain ⟨es', hb, he⟩ := this
        exact ⟨_, rfl, by simp [Builtin.len_, run_underlying' hu, run_getObj hb (by simp), goNat, he.length]⟩
      · cases hv
    · cases hv
  · rename_i k e hu
    split at hv
    · cases hv; cases hx; exact ⟨_, rfl, by simp [Builtin.len_, run_underlying' hu, goInt]⟩
    · split at hv
      · rename_i r _ buf _ _ _ hg; cases hv; obtain ⟨l, hl, rfl⟩ := hx
        have := s.obj _ _ hl
        rw [hg] at this
        obtain ⟨b', hb, he⟩ := this
        exact ⟨_, rfl, by simp [Builtin.len_, run_underlying' hu, run_getObj hb (by simp), goNat, he.length]⟩
      · cases hv
    · cases hv
  · rename_i n e hu
    cases hv; exact ⟨_, rfl, by simp [Builtin.len_, run_underlying' hu, goNat]⟩
  · cases hv

theorem capB_rel (s : Sim G μ h w) {ty oty : TypeId} {x : V} {c : Value} {v : V} (hx : VRel μ x c) (hv : capB G.C h ty x = some v) : ValW G μ w (Builtin.cap_ #[ty] oty #[c]) v := by
  unfold capB at hv
  split at hv
  · rename_i e hu
    split at hv
    · cases hv; obtain ⟨l, m, hl, rfl, hm⟩ := hx; simp only at hm; subst hm; exact ⟨_, rfl, by simp [Builtin.cap_, run_underlying' hu, goNat]⟩
    · cases hv; cases hx; exact ⟨_, rfl, by simp [Builtin.cap_, run_underlying' hu, goInt]⟩
    · cases hv
  · rename_i k e hu
    split at hv
    · cases hv; cases hx; exact ⟨_, rfl, by simp [Builtin.cap_, run_underlying' hu, goInt]⟩
    · split at hv
      · rename_i r n _ _ _ _ hg; cases hv; obtain ⟨l, hl, rfl⟩ := hx
        have := s.obj _ _ hl
        rw [hg] at this
        obtain ⟨b', hb, he⟩ := this
        exact ⟨_, rfl, by simp [Builtin.cap_, run_underlying' hu, run_getObj hb (by simp), goNat]⟩
      · cases hv
    · cases hv
  · cases hv

theorem minB_rel : ∀ (l : List V) (x v : V) (cs : List Value) (c : Value), VRel μ x c → VRels μ l cs → minB x l = some v → ValW G μ w (cs.foldlM Builtin.min2 c) v
  | [], x, v, cs, c, hx, hl, hv => by
    cases hl
    have : v = x := by cases x <;> simp [minB] at hv <;> exact hv.symm
    subst this; exact ⟨c, hx, by simp⟩
  | y :: l, x, v, cs, c, hx, ⟨d, ds, e, hy, hl⟩, hv => by
    subst e
    unfold minB at hv
    split at hv
    · rename_i e; cases e
    · rename_i k a k' b l' e; cases e
      cases hx; cases hy
      obtain ⟨r, hr, hrun⟩ := minB_rel l _ v ds (.int k (if b < a then b else a)) (by
        rw [ltI_eq]
        by_cases hlt : b < a <;> simp [hlt, VRel]) hl hv
      exact ⟨r, hr, by simp [Builtin.min2, hrun]⟩
    · cases hv
theorem maxB_rel : ∀ (l : List V) (x v : V) (cs : List Value) (c : Value), VRel μ x c → VRels μ l cs → maxB x l = some v → ValW G μ w (cs.foldlM Builtin.max2 c) v
  | [], x, v, cs, c, hx, hl, hv => by
    cases hl
    have : v = x := by cases x <;> simp [maxB] at hv <;> exact hv.symm
    subst this; exact ⟨c, hx, by simp⟩
  | y :: l, x, v, cs, c, hx, ⟨d, ds, e, hy, hl⟩, hv => by
    subst e
    unfold maxB at hv
    split at hv
    · rename_i e; cases e
    · rename_i k a k' b l' e; cases e
      cases hx; cases hy
      obtain ⟨r, hr, hrun⟩ := maxB_rel l _ v ds (.int k (if b > a then b else a)) (by
        rw [ltI_eq]
        by_cases hlt : a < b <;> simp [hlt, VRel]) hl hv
      exact ⟨r, hr, by simp [Builtin.max2, hrun]⟩
    · cases hv

theorem sdB_rel {ats : Array TypeId} {oty : TypeId} {x : V} {c : Value} {v : V} (hx : VRel μ x c) (hv : sdB x = some v) : ValW G μ w (Builtin.unsafeSliceData_ ats oty #[c]) v := by
  unfold sdB at hv
  split at hv
  · cases hv; cases hx; exact ⟨_, rfl, rfl⟩
  · cases hv; obtain ⟨l, m, hl, rfl, hm⟩ := hx; simp only at hm; subst hm
    exact ⟨_, ⟨l, hl, rfl⟩, rfl⟩
  · rename_i b off n; cases hv; obtain ⟨l, m, hl, rfl, _, hm, _⟩ := hx
    obtain ⟨k, rfl⟩ : ∃ k, m = k + 1 := ⟨m - 1, by omega⟩
    exact ⟨_, ⟨l, hl, rfl⟩, rfl⟩
  · cases hv

theorem one_arr {x : V} {xs : List V} {args : Array Value} (hr : VRels μ (x :: xs) args.toList) : ∃ c cs, args = ⟨c :: cs⟩ ∧ VRel μ x c ∧ VRels μ xs cs := by
  obtain ⟨c, cs, e, h1, h2⟩ := hr
  exact ⟨c, cs, by rw [← e], h1, h2⟩

theorem lookB_rel (s : Sim G μ h w) {b : Builtin} {ats : Array TypeId} {oty : TypeId} {consts : Array Bool} {args : Array Value} {vs : List V} {v : V} (hr : VRels μ vs args.toList)
    (hv : lookB G.C h b ats.toList vs = some v) : ∃ c, VRel μ v c ∧ (builtin b ats oty consts args).run G.C.P w = .ok (.value c) w := by
  have fin : ∀ {sm : Sem Value}, builtin b ats oty consts args = (do pure (.value (← sm))) → ValW G μ w sm v → ∃ c, VRel μ v c ∧ (builtin b ats oty consts args).run G.C.P w = .ok (.value c) w := by
    intro sm hs hh
    obtain ⟨c, hc, hrun⟩ := hh
    exact ⟨c, hc, by rw [hs]; simp [hrun]⟩
  unfold lookB at hv
  split at hv
  · cases ha : ats.toList with
    | nil => rw [ha] at hv; cases hv
    | cons t ts =>
      rw [ha] at hv
      cases vs with
      | nil => cases hv
      | cons x xs =>
        obtain ⟨c, cs, rfl, hx, _⟩ := one_arr hr
        refine fin (sm := Builtin.len_ ats oty ⟨c :: cs⟩) rfl ?_
        have e : ats = ⟨t :: ts⟩ := by rw [← ha]
        obtain ⟨d, hd, hrun⟩ := lenB_rel (oty := oty) s hx hv
        refine ⟨d, hd, ?_⟩
        rw [e]; simpa [Builtin.len_] using hrun
  · cases ha : ats.toList with
    | nil => rw [ha] at hv; cases hv
    | cons t ts =>
      rw [ha] at hv
      cases vs with
      | nil => cases hv
      | cons x xs =>
        obtain ⟨c, cs, rfl, hx, _⟩ := one_arr hr
        refine fin (sm := Builtin.cap_ ats oty ⟨c :: cs⟩) rfl ?_
        have e : ats = ⟨t :: ts⟩ := by rw [← ha]
        obtain ⟨d, hd, hrun⟩ := capB_rel (oty := oty) s hx hv
        refine ⟨d, hd, ?_⟩
        rw [e]; simpa [Builtin.cap_] using hrun
  · split at hv
    · obtain ⟨c, cs, rfl, hx, hl⟩ := one_arr hr
      exact fin (sm := Builtin.min_ ats oty ⟨c :: cs⟩) rfl (by simpa [Builtin.min_] using minB_rel _ _ v cs c hx hl hv)
    · cases hv
  · split at hv
    · obtain ⟨c, cs, rfl, hx, hl⟩ := one_arr hr
      exact fin (sm := Builtin.max_ ats oty ⟨c :: cs⟩) rfl (by simpa [Builtin.max_] using maxB_rel _ _ v cs c hx hl hv)
    · cases hv
  · split at hv
    · obtain ⟨c, cs, rfl, hx, hl⟩ := one_arr hr
      cases hl
      exact fin (sm := Builtin.unsafeSliceData_ ats oty #[c]) rfl (sdB_rel hx hv)
    · cases hv
  · cases hv

/-! conversions -/
theorem bytes_spec : ∀ (l : List V) (bs : List UInt8) (cs : List Value), mapO byteOf l = some bs → VRels μ l cs → ∃ ns : List Int, cs = ns.map (Value.int .u8) ∧ ns.map (fun n => UInt8.ofNat n.toNat) = bs
  | [], bs, cs, hm, hr => by simp only [mapO, Option.some.injEq] at hm; subst hm; cases hr; exact ⟨[], rfl, rfl⟩
  | x :: l, bs, cs, hm, ⟨c, cs', e, hx, hl⟩ => by
    subst e
    simp only [mapO] at hm
    split at hm
    · rename_i b hb
      split at hm
      · rename_i bs' hbs; cases hm
        unfold byteOf at hb
        split at hb
        · rename_i n; cases hb; cases hx
          obtain ⟨ns, rfl, rfl⟩ := bytes_spec l _ cs' hbs hl
          exact ⟨n :: ns, rfl, rfl⟩
        · cases hb
      · cases hm
    · cases hm

theorem foldl_bytes : ∀ (ns : List Int) (a : ByteArray), ns.foldl (fun r n => r.push (UInt8.ofNat n.toNat)) a = ⟨⟨a.data.toList ++ ns.map (fun n => UInt8.ofNat n.toNat)⟩⟩
  | [], a => by simp
  | n :: ns, a => by
    rw [List.foldl_cons, foldl_bytes ns]
    simp [ByteArray.push]

theorem firstL_rel (s : Sim G μ h w) {sz n : Nat} {x : V} {c : Value} {l : List V} (hx : VRel μ x c) (hl : firstL h sz n x = some l) :
    ∃ cs, VRels μ l cs ∧ (Builtin.firstCells sz n c).run G.C.P w = .ok ⟨cs⟩ w := by
  unfold firstL at hl
  split at hl
  · cases hl; cases hx; exact ⟨[], rfl, by simp [Builtin.firstCells]⟩
  · rename_i b off len cap
    split at hl
    · rename_i cs hcs
      obtain ⟨e, g, fz, ro, hg⟩ := cellsAt_spec hcs
      obtain ⟨lc, m, hlc, rfl, _⟩ := hx
      obtain ⟨C, lo, hi, pre, mid, post, r⟩ := obj_cells s hlc hg
      obtain ⟨h1, h2⟩ := load_seg (G := G) r hl
      exact ⟨_, h1, by simp [Builtin.firstCells, h2]⟩
    · cases hl
  · rename_i st
    split at hl
    case h_2 => cases hl
    cases hl; cases hx
    refine ⟨((st.extract 0 n).data.map fun b => Value.int .u8 b.toNat).toList, ?_, by show Result.ok _ w = Result.ok _ w; rfl⟩
    rw [Array.toList_map, ByteArray.data_extract, Array.toList_extract, List.extract_eq_take_drop]
    simp only [List.drop_zero, Nat.sub_zero]
    generalize st.data.toList.take n = bs
    induction bs with
    | nil => rfl
    | cons b bs ih => exact VRels.cons rfl ih
  · cases hl

theorem opConv_rel (s : Sim G μ h w) {src dst : TypeId} {sd dd : TypeDesc} {x : V} {c : Value} {v : V} (hs : und G.C src = some sd) (hd : und G.C dst = some dd) (hx : VRel μ x c)
    (hv : opConv G.C h sd dd x = some v) : ValW G μ w (convert src dst c) v := by
  unfold opConv at hv
  split at hv
  · split at hv
    · cases hv; cases hx; exact ⟨_, rfl, by simp [convert, run_underlying' hs, run_underlying' hd, Conv.intToInt, wrapF_eq]⟩
    · cases hv
  · split at hv
    · cases hv; cases hx; exact ⟨_, rfl, by simp [convert, run_underlying' hs, run_underlying' hd]⟩
    · rename_i x' hx'
      split at hv
      · rename_i e
        unfold opConvS at hv
        split at hv
        · rename_i hu
          split at hv
          · cases hv; cases hx
            exact ⟨_, rfl, by rw [run_convert_bytes_nil w src e hs hu 0 0 dst hd]; rfl⟩
          · rename_i b off n cap
            unfold bytesStr at hv
            split at hv
            · rename_i l hl
              split at hv
              · rename_i bs hbs; cases hv
                obtain ⟨cs, hcs, hrun⟩ := firstL_rel s hx hl
                obtain ⟨ns, rfl, rfl⟩ := bytes_spec _ _ _ hbs hcs
                obtain ⟨lc, m, hlc, rfl, _⟩ := hx
                refine ⟨_, rfl, ?_⟩
                simp only [Builtin.firstCells, Nat.mul_one] at hrun
                rw [run_convert_bytes_string w src dst e _ n m hs hu hd, run_bytesToString w _ n m ns hrun, foldl_bytes]
                rfl
              · cases hv
            · cases hv
          · cases hv
        · cases hv
      · cases hv
  · unfold opConvP at hv
    split at hv
    · split at hv
      · rename_i u
        split at hv
        · rename_i b off
          split at hv
          · rename_i n hsz hin; cases hv
            unfold inBlock at hin
            split at hin
            · rename_i cs e g fz ro hg
              rw [bltN, decide_eq_true_eq] at hin
              obtain ⟨l, hl, rfl⟩ := hx
              obtain ⟨C, lo, hi, pre, mid, post, r⟩ := obj_cells s hl hg
              have hsh : w.shape? l.blk = some (e, C.size) := by simp [World.shape?, r.blk]
              have hlen : l.base + off < C.size := by
                have := congrArg List.length r.split
                have hm := r.vals.length
                simp [r.base] at this
                omega
              refine ⟨_, ⟨l, hl, rfl⟩, ?_⟩
              have e1 : (Conv.seenAt ⟨l.blk, l.base + off, none⟩).run G.C.P w = .ok ⟨l.blk, l.base + off, none⟩ w := by
                simp [Conv.seenAt, viewAt, shape, Sem.run, hsh]
              have e2 : (cellsIn l.blk).run G.C.P w = .ok (some C.size) w := by
                simp [cellsIn, shape, Sem.run, hsh]
              have e3 : ¬ (C.size ≤ l.base + off) := by omega
              simp [convert, run_underlying' hs, run_underlying' hd, Conv.unsafePointer, e1, e2, run_size hsz, e3]
            · cases hin
          · cases hv
        · cases hv
      · cases hv
    · rename_i u h1 h2
      split at hv
      · skip
        split at hv
        · rename_i b off
          split at hv
          · rename_i _ hin; rename_i zu hzu; cases hv
            unfold liesIn at hin
            split at hin
            · rename_i cs e fz ro hg
              rw [Bool.and_eq_true, bltN, decide_eq_true_eq] at hin
              obtain ⟨hlt, hlies⟩ := hin
              obtain ⟨l, hl, rfl⟩ := hx
              obtain ⟨C, lo, hi, pre, mid, post, r⟩ := obj_cells s hl hg
              obtain ⟨hb0, hpost⟩ := r.shape
              have hpost := List.eq_nil_of_length_eq_zero hpost
              subst hpost
              have hsz : C.size = cs.length := by
                have := congrArg List.length r.split
                have hm := r.vals.length
                simp [r.base, hb0] at this
                omega
              have hsh : w.shape? l.blk = some (e, C.size) := by simp [World.shape?, r.blk]
              refine ⟨_, ⟨l, hl, rfl⟩, ?_⟩
              have e1 : (Conv.seenAt ⟨l.blk, l.base + off, none⟩).run G.C.P w = .ok ⟨l.blk, l.base + off, none⟩ w := by
                simp [Conv.seenAt, viewAt, shape, Sem.run, hsh]
              have e2 : (variablesAt ⟨l.blk, l.base + off, none⟩ u 1).run G.C.P w = .ok true w := by
                simp only [variablesAt, shape, Sem.run_bind, run_program, Result.andThen_ok]
                simp [Sem.run, hsh, hb0, hsz, hlies]
              simp [convert, run_underlying' hs, run_underlying' hd, Conv.unsafePointer, e1, e2, run_size hzu]
            · cases hin
          · cases hv
        · cases hv
      · cases hv
    · cases hv
end
end Go.AE
