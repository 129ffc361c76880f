/-
  A part of the abstract evaluator's soundness: its operations agree with the model's. No conditions beyond the theorems' own.
-/
import Derived.Test.YtkmpjokcpboloaaGreatDoorAfD
set_option linter.unusedSimpArgs false
set_option linter.unusedVariables false
namespace Go.AE

/-! what an operation looks at -/
def CK.same (t t' : Tr V) : CK → Prop
  | .no => True
  | .pu f => f t = f t'
  | .rd f => f t = f t'
  | .al f => f t = f t'
  | .ef f => f t = f t'
  | .call f => ∀ ex, f ex t = f ex t'

theorem opds_congr {C : Ctx} {t t' : Tr V} : ∀ (xs : List Operand), (∀ x ∈ xs, opd C t x = opd C t' x) → opds C t xs = opds C t' xs
  | [], _ => rfl
  | x :: xs, h => by
    simp only [opds]
    rw [h x (by simp), opds_congr xs fun y hy => h y (by simp [hy])]

theorem opOpt_congr {C : Ctx} {t t' : Tr V} (x : Option Operand) (h : ∀ y, x = some y → opd C t y = opd C t' y) : opOpt C t x = opOpt C t' x := by
  cases x with
  | none => rfl
  | some y => simp only [opOpt]; rw [h y rfl]

theorem opMap_congr {C : Ctx} {t t' : Tr V} {ty : TypeId} (x : Option Operand) (h : ∀ y, x = some y → opd C t y = opd C t' y) : opMap C t ty x = opMap C t' ty x := by
  cases x with
  | none => rfl
  | some y => simp only [opMap]; rw [h y rfl]

theorem compK_congr {C : Ctx} {t t' : Tr V} (op : Op) (h : ∀ x ∈ op.operands, opd C t x = opd C t' x) : (compK C op).same t t' := by
  cases op with
  | alloc e => rfl
  | move x => exact h x (by simp [Op.operands])
  | assign x => have := h x (by simp [Op.operands]); simp only [compK, CK.same]; rw [this]
  | pick c a b =>
    have h1 := h c (by simp [Op.operands]); have h2 := h a (by simp [Op.operands]); have h3 := h b (by simp [Op.operands])
    simp only [compK, CK.same]; rw [h1, h2, h3]
  | box e x => have := h x (by simp [Op.operands]); simp only [compK, CK.same]; rw [this]
  | build ty ps =>
    have := opds_congr (C := C) (t := t) (t' := t') (ps.toList.map (·.2)) fun x hx => h x (by simpa [Op.operands] using hx)
    simp only [compK, CK.same]; rw [this]
  | buildSlice ty n ps =>
    have := opds_congr (C := C) (t := t) (t' := t') (ps.toList.map (·.2)) fun x hx => h x (by simpa [Op.operands] using hx)
    simp only [compK, CK.same]; rw [this]
  | load ty a => have := h a (by simp [Op.operands]); simp only [compK, CK.same]; rw [this]
  | store ty a x => have h1 := h a (by simp [Op.operands]); have h2 := h x (by simp [Op.operands]); simp only [compK, CK.same]; rw [h1, h2]
  | nilCheck x => have := h x (by simp [Op.operands]); simp only [compK, CK.same]; rw [this]
  | binOp op ty x y yt => have h1 := h x (by simp [Op.operands]); have h2 := h y (by simp [Op.operands]); simp only [compK, CK.same]; rw [h1, h2]
  | unOp op ty x => have := h x (by simp [Op.operands]); simp only [compK, CK.same]; rw [this]
  | convert src dst x =>
    have := h x (by simp [Op.operands])
    simp only [compK, compConv]
    split
    · split
      · split
        · simp only [CK.same]; rw [this]
        · trivial
      · simp only [CK.same]; rw [this]
    · trivial
  | makeInterface ty x => have := h x (by simp [Op.operands]); simp only [compK, CK.same]; rw [this]
  | makeFunc fn a c =>
    have h1 := opds_congr (C := C) (t := t) (t' := t') a.toList fun x hx => h x (by simp [Op.operands]; exact .inl (by simpa using hx))
    have h2 := opds_congr (C := C) (t := t) (t' := t') c.toList fun x hx => h x (by simp [Op.operands]; exact .inr (by simpa using hx))
    simp only [compK, CK.same]; rw [h1, h2]
  | makeMap ty r => exact opMap_congr r fun y hy => h y (by subst hy; simp [Op.operands])
  | makeChan ty n => have := h n (by simp [Op.operands]); simp only [compK, CK.same]; rw [this]
  | makeSlice ty l c => have h1 := h l (by simp [Op.operands]); have h2 := h c (by simp [Op.operands]); simp only [compK, CK.same]; rw [h1, h2]
  | slice ty x lo hi mx =>
    have h1 := h x (by simp [Op.operands])
    have h2 := opOpt_congr (C := C) (t := t) (t' := t') lo fun y hy => h y (by subst hy; simp [Op.operands])
    have h3 := opOpt_congr (C := C) (t := t) (t' := t') hi fun y hy => h y (by subst hy; simp [Op.operands])
    have h4 := opOpt_congr (C := C) (t := t) (t' := t') mx fun y hy => h y (by subst hy; simp [Op.operands])
    simp only [compK, CK.same]; rw [h1, h2, h3, h4]
  | fieldAddr st x f => have := h x (by simp [Op.operands]); simp only [compK, CK.same]; rw [this]
  | field ty x f => have := h x (by simp [Op.operands]); simp only [compK, CK.same]; rw [this]
  | indexAddr ty x ix => have h1 := h x (by simp [Op.operands]); have h2 := h ix (by simp [Op.operands]); simp only [compK, CK.same]; rw [h1, h2]
  | index ty x ix => have h1 := h x (by simp [Op.operands]); have h2 := h ix (by simp [Op.operands]); simp only [compK, CK.same]; rw [h1, h2]
  | lookup ty x ix ok => have h1 := h x (by simp [Op.operands]); have h2 := h ix (by simp [Op.operands]); simp only [compK, CK.same]; rw [h1, h2]
  | mapUpdate ty m k x => have h1 := h m (by simp [Op.operands]); have h2 := h k (by simp [Op.operands]); have h3 := h x (by simp [Op.operands]); simp only [compK, CK.same]; rw [h1, h2, h3]
  | insert ty m k x => have h1 := h m (by simp [Op.operands]); have h2 := h k (by simp [Op.operands]); have h3 := h x (by simp [Op.operands]); simp only [compK, CK.same]; rw [h1, h2, h3]
  | mapEntry ty m k => have h1 := h m (by simp [Op.operands]); have h2 := h k (by simp [Op.operands]); simp only [compK, CK.same]; rw [h1, h2]
  | entryStore ty m st x => have h1 := h m (by simp [Op.operands]); have h2 := h st (by simp [Op.operands]); have h3 := h x (by simp [Op.operands]); simp only [compK, CK.same]; rw [h1, h2, h3]
  | range ty x => have := h x (by simp [Op.operands]); simp only [compK, CK.same]; rw [this]
  | next it b => have := h it (by simp [Op.operands]); simp only [compK, CK.same]; rw [this]
  | entry it => have := h it (by simp [Op.operands]); simp only [compK, CK.same]; rw [this]
  | typeAssert x xt a ok => have := h x (by simp [Op.operands]); simp only [compK, CK.same]; rw [this]
  | extract x i => have := h x (by simp [Op.operands]); simp only [compK, CK.same]; rw [this]
  | call c =>
    obtain ⟨cal, args, ats⟩ := c
    have hargs : opds C t args.toList = opds C t' args.toList := opds_congr _ fun x hx => h x (by simp [Op.operands, Call.operands]; exact .inr (by simpa using hx))
    cases cal with
    | builtin b => simp only [compK, compB]; split <;> (simp only [CK.same]; rw [hargs])
    | value f => have := h f (by simp [Op.operands, Call.operands]); simp only [compK, CK.same]; intro ex; rw [this, hargs]
    | invoke r name => have := h r (by simp [Op.operands, Call.operands]); simp only [compK, CK.same]; intro ex; rw [this, hargs]
  | send ch x => have h1 := h ch (by simp [Op.operands]); have h2 := h x (by simp [Op.operands]); simp only [compK, CK.same]; rw [h1, h2]
  | recv ty ch ok => have := h ch (by simp [Op.operands]); simp only [compK, CK.same]; rw [this]
  | select cs b =>
    simp only [compK]
    split
    all_goals first
      | (exfalso; rename_i e; cases e; done)
      | trivial
      | skip
    rename_i ch e heq
    cases heq
    have := h ch (by simp [Op.operands])
    simp only [CK.same]; rw [this]
  | _ => trivial

theorem stepK_same {ex : Exec} {t t' : Tr V} {k : CK} (hs : k.same t t') (h : H) : stepK ex k t h = stepK ex k t' h := by
  cases k <;> simp only [CK.same] at hs <;> simp only [stepK]
  · rw [hs]
  · rw [hs]
  · rw [hs]
  · rw [hs]
  · rw [hs]

/-! equality, decided -/
theorem Pos.eq_of_beq {p q : Pos} (h : p.beq q = true) : p = q := by rw [Pos.beq_eq, decide_eq_true_eq] at h; exact h
theorem Nat.eq_of_beqb {a b : Nat} (h : Nat.beq a b = true) : a = b := Nat.eq_of_beq_eq_true h
theorem eqB_eq' {a b : Bool} (h : eqB a b = true) : a = b := by cases a <;> cases b <;> first | rfl | cases h
theorem eqK_eq' {a b : IntKind} (h : eqK a b = true) : a = b := by cases a <;> cases b <;> first | rfl | cases h
theorem eqI_eq' {a b : Int} (h : eqI a b = true) : a = b := by
  cases a <;> cases b <;> simp only [eqI] at h <;> first | (cases h; done) | (rw [Nat.eq_of_beq_eq_true h])
theorem eqBytes_eq' : ∀ {a b : List UInt8}, eqBytes a b = true → a = b
  | [], [], _ => rfl
  | x :: a, y :: b, h => by
    simp only [eqBytes] at h
    split at h
    · rename_i hx
      have := Nat.eq_of_beq_eq_true hx
      rw [UInt8.toNat_inj.1 this, eqBytes_eq' h]
    · cases h
  | [], _ :: _, h => by simp [eqBytes] at h
  | _ :: _, [], h => by simp [eqBytes] at h

theorem beqL_eq {n : Nat} (ih : ∀ a b, V.beq n a b = true → a = b) : ∀ {a b : List V}, V.beq.beqL n a b = true → a = b
  | [], [], _ => rfl
  | x :: a, y :: b, h => by
    simp only [V.beq.beqL, Bool.and_eq_true] at h
    rw [ih _ _ h.1, beqL_eq ih h.2]
  | [], _ :: _, h => by simp [V.beq.beqL] at h
  | _ :: _, [], h => by simp [V.beq.beqL] at h

theorem V.beq_eq' : ∀ (n : Nat) (a b : V), V.beq n a b = true → a = b
  | 0, _, _, h => by simp [V.beq] at h
  | n + 1, a, b, h => by
    have ih := V.beq_eq' n
    unfold V.beq at h
    split at h
    · rw [eqB_eq' h]
    · rw [Bool.and_eq_true] at h; rw [eqK_eq' h.1, eqI_eq' h.2]
    · rename_i x y
      obtain ⟨⟨x⟩⟩ := x; obtain ⟨⟨y⟩⟩ := y
      have := eqBytes_eq' h
      simp only at this
      rw [this]
    · rw [Bool.and_eq_true] at h; rw [Pos.eq_of_beq h.1, Nat.eq_of_beqb h.2]
    · rfl
    · rename_i a i l c b j m d
      rw [Bool.and_eq_true, Bool.and_eq_true, Bool.and_eq_true] at h
      obtain ⟨⟨⟨h1, h2⟩, h3⟩, h4⟩ := h
      rw [Pos.eq_of_beq h1, Nat.eq_of_beqb h2, Nat.eq_of_beqb h3]
      cases c <;> cases d <;> first | rfl | (cases h4; done) | (rw [Nat.eq_of_beqb h4])
    · rfl
    · rw [Pos.eq_of_beq h]
    · rfl
    · rw [Pos.eq_of_beq h]
    · rfl
    · rfl
    · rw [Bool.and_eq_true, Bool.and_eq_true] at h
      obtain ⟨⟨h1, h2⟩, h3⟩ := h
      rw [Nat.eq_of_beqb h1, beqL_eq ih h2, beqL_eq ih h3]
    · rw [Pos.eq_of_beq h]
    · rw [Bool.and_eq_true] at h; rw [Nat.eq_of_beqb h.1, ih _ _ h.2]
    · rfl
    · rw [beqL_eq ih h]
    · rw [beqL_eq ih h]
    · rfl
    · cases h

theorem O.beq_eq' {a b : O} (h : a.beq b = true) : a = b := by
  unfold O.beq at h
  split at h
  · rename_i cs e g fz ro cs' e' g' fz' ro'
    rw [Bool.and_eq_true, Bool.and_eq_true, Bool.and_eq_true, Bool.and_eq_true] at h
    obtain ⟨⟨⟨⟨h1, h2⟩, h3⟩, h4⟩, h5⟩ := h
    have := V.beq_eq' _ _ _ h1
    cases this
    rw [Nat.eq_of_beqb h2, Nat.eq_of_beqb h4, eqB_eq' h5]
    cases g <;> cases g' <;> first | rfl | (cases h3; done) | (rw [Nat.eq_of_beqb h3])
  · rw [Nat.eq_of_beqb h]
  · rw [Bool.and_eq_true, Bool.and_eq_true, Bool.and_eq_true] at h
    obtain ⟨⟨⟨h1, h2⟩, h3⟩, h4⟩ := h
    rw [Nat.eq_of_beqb h1, eqB_eq' h2, Nat.eq_of_beqb h3, Nat.eq_of_beqb h4]
  · cases h

/-! reading is not disturbed by new blocks -/
def H.grows (h h' : H) : Prop := ∀ b, (h.get b).live = true → h'.get b = h.get b

section mono
variable {C : Ctx} {h h' : H} {v : V}

theorem grows_or (g : h.grows h') (b : Pos) : h.get b = .dead ∨ h'.get b = h.get b := by
  cases hl : (h.get b).live with
  | true => exact .inr (g b hl)
  | false => left; cases hg : h.get b <;> rw [hg] at hl <;> first | rfl | cases hl

theorem cellsAt_mono (g : h.grows h') {b : Pos} {cs : List V} (hc : cellsAt h b = some cs) : cellsAt h' b = some cs := by
  unfold cellsAt at hc ⊢
  rcases grows_or g b with e | e
  · rw [e] at hc; cases hc
  · rw [e]; exact hc

theorem loadL_mono (g : h.grows h') {ty : TypeId} {b : Pos} {off : Nat} (hv : loadL C h ty b off = some v) : loadL C h' ty b off = some v := by
  unfold loadL at hv ⊢
  split at hv
  · rename_i cs hc; rw [cellsAt_mono g hc]; exact hv
  · cases hv

theorem opLoad_mono (g : h.grows h') {ty : TypeId} {x : Option V} (hv : opLoad C h ty x = some v) : opLoad C h' ty x = some v := by
  unfold opLoad at hv ⊢
  split at hv
  · exact loadL_mono g hv
  · cases hv

theorem firstL_mono (g : h.grows h') {sz n : Nat} {x : V} {l : List V} (hv : firstL h sz n x = some l) : firstL h' sz n x = some l := by
  unfold firstL at hv ⊢
  split at hv
  · exact hv
  · split at hv
    · rename_i cs hc; simp only [cellsAt_mono g hc]; exact hv
    · cases hv
  · exact hv
  · cases hv

theorem sliceSl_mono (g : h.grows h') {sz : Nat} {b : Pos} {off len : Nat} {cap lo hi mx : Option Nat} (hv : sliceSl h sz b off len cap lo hi mx = some v) : sliceSl h' sz b off len cap lo hi mx = some v := by
  unfold sliceSl at hv ⊢
  cases cap with
  | some c => exact hv
  | none =>
    simp only at hv ⊢
    cases hv' : sliceTight sz b off len lo hi mx with
    | some v' => rw [hv'] at hv; exact hv
    | none =>
      rw [hv'] at hv
      simp only at hv ⊢
      unfold sliceLoose at hv ⊢
      rcases grows_or g b with e | e
      · rw [e] at hv; cases hv
      · rw [e]; exact hv

theorem sliceV_mono (g : h.grows h') {ty : TypeId} {x : V} {lo hi mx : Option Nat} (hv : sliceV C h ty x lo hi mx = some v) : sliceV C h' ty x lo hi mx = some v := by
  unfold sliceV at hv ⊢
  split at hv
  · exact hv
  · split at hv
    · exact hv
    · split at hv
      · rename_i sz hsz; exact sliceSl_mono g hv
      · cases hv
    · cases hv
  · exact hv
  · exact hv
  · cases hv

theorem opSlice_mono (g : h.grows h') {ty : TypeId} {x : Option V} {lo hi mx : Option (Option Nat)} (hv : opSlice C h ty x lo hi mx = some v) : opSlice C h' ty x lo hi mx = some v := by
  unfold opSlice at hv ⊢
  split at hv
  · cases hv
  · split at hv
    · exact sliceV_mono g hv
    · cases hv

theorem entriesOf_mono (g : h.grows h') {x : Option V} {es} (hv : entriesOf h x = some es) : entriesOf h' x = some es := by
  unfold entriesOf at hv ⊢
  split at hv
  · exact hv
  · rename_i r
    rcases grows_or g r with e | e
    · rw [e] at hv; cases hv
    · simp only [e]; exact hv
  · cases hv

theorem opLookup_mono (g : h.grows h') {ty : TypeId} {x ix : Option V} {ok : Bool} (hv : opLookup C h ty x ix ok = some v) : opLookup C h' ty x ix ok = some v := by
  unfold opLookup at hv ⊢
  split at hv
  · split at hv
    · rename_i e1 e2
      rw [e1, entriesOf_mono g e2]; exact hv
    · cases hv
  · cases hv

theorem opEntry_mono (g : h.grows h') {x : Option V} (hv : opEntry h x = some v) : opEntry h' x = some v := by
  unfold opEntry at hv ⊢
  split at hv
  · rename_i r
    rcases grows_or g r with e | e
    · rw [e] at hv; cases hv
    · rw [e]
      split at hv
      · rename_i m s seen st hg
        split at hv
        · rename_i st' es clock hs hm
          have : h'.get m = .map es clock := by rw [g m (by rw [hm]; rfl), hm]
          simp only [hs, this]
          exact hv
        · cases hv
      · cases hv
  · cases hv

theorem opConv_mono (g : h.grows h') {s d : TypeDesc} {x : V} (hv : opConv C h s d x = some v) : opConv C h' s d x = some v := by
  have hS : ∀ e x, opConvS C h e x = some v → opConvS C h' e x = some v := by
    intro e x hv
    unfold opConvS at hv ⊢
    split at hv
    · split at hv
      · exact hv
      · rename_i b off n c
        cases hf : firstL h 1 n (.slice b off n c) with
        | none => rw [hf] at hv; cases hv
        | some l => rw [hf] at hv; simp only [firstL_mono g hf]; exact hv
      · cases hv
    · cases hv
  have hin : ∀ b off, inBlock h b off = true → inBlock h' b off = true := by
    intro b off hb
    unfold inBlock at hb ⊢
    rcases grows_or g b with e | e
    · rw [e] at hb; cases hb
    · rw [e]; exact hb
  have hli : ∀ u b off, liesIn C h u b off = true → liesIn C h' u b off = true := by
    intro u b off hb
    unfold liesIn at hb ⊢
    rcases grows_or g b with e | e
    · rw [e] at hb; cases hb
    · rw [e]; exact hb
  have hP : ∀ x, opConvP C h s d x = some v → opConvP C h' s d x = some v := by
    intro x hv
    unfold opConvP at hv ⊢
    split at hv
    · split at hv
      · split at hv
        · split at hv
          · rename_i e1 e2; simp only [e1, hin _ _ e2]; exact hv
          · cases hv
        · cases hv
      · cases hv
    · split at hv
      · split at hv
        · split at hv
          · rename_i e1 e2; simp only [e1, hli _ _ _ e2]; exact hv
          · cases hv
        · cases hv
      · cases hv
    · cases hv
  unfold opConv at hv ⊢
  split at hv
  · exact hv
  · split at hv
    · exact hv
    · split at hv
      · exact hS _ _ hv
      · cases hv
  · exact hP _ hv

theorem lookB_mono (g : h.grows h') {b : Builtin} {ats : List TypeId} {vs : List V} (hv : lookB C h b ats vs = some v) : lookB C h' b ats vs = some v := by
  have hlen : ∀ t x, lenB C h t x = some v → lenB C h' t x = some v := by
    intro t x hv
    unfold lenB at hv ⊢
    split at hv
    · exact hv
    · exact hv
    · split at hv
      · exact hv
      · rename_i r
        rcases grows_or g r with e | e
        · rw [e] at hv; cases hv
        · simp only [e]; exact hv
      · cases hv
    · split at hv
      · exact hv
      · rename_i r
        rcases grows_or g r with e | e
        · rw [e] at hv; cases hv
        · simp only [e]; exact hv
      · cases hv
    · exact hv
    · cases hv
  have hcap : ∀ t x, capB C h t x = some v → capB C h' t x = some v := by
    intro t x hv
    unfold capB at hv ⊢
    split at hv
    · exact hv
    · split at hv
      · exact hv
      · rename_i r
        rcases grows_or g r with e | e
        · rw [e] at hv; cases hv
        · simp only [e]; exact hv
      · cases hv
    · cases hv
  unfold lookB at hv ⊢
  split at hv
  · split at hv
    · exact hlen _ _ hv
    · cases hv
  · split at hv
    · exact hcap _ _ hv
    · cases hv
  · exact hv
  · exact hv
  · exact hv
  · cases hv

theorem rd_mono (g : h.grows h') {op : Op} {f : Tr V → H → Option V} (hk : compK C op = .rd f) {t : Tr V} (hv : f t h = some v) : f t h' = some v := by
  cases op with
  | load ty a => cases hk; exact opLoad_mono g hv
  | slice ty x lo hi mx => cases hk; exact opSlice_mono g hv
  | lookup ty x ix ok => cases hk; exact opLookup_mono g hv
  | entry it => cases hk; exact opEntry_mono g hv
  | convert src dst x =>
    simp only [compK, compConv] at hk
    split at hk
    · split at hk
      · split at hk <;> cases hk
      · cases hk
        simp only at hv ⊢
        unfold opConvO at hv ⊢
        split at hv
        · exact opConv_mono g hv
        · cases hv
    · cases hk
  | call c =>
    obtain ⟨cal, args, ats⟩ := c
    cases cal with
    | builtin b =>
      simp only [compK, compB] at hk
      split at hk
      · cases hk
        simp only at hv ⊢
        unfold opLookB at hv ⊢
        split at hv
        · exact lookB_mono g hv
        · cases hv
      · cases hk
    | _ => cases hk
  | select cs b =>
    simp only [compK] at hk
    split at hk <;> first | (exfalso; rename_i e; cases e; done) | cases hk
  | _ => cases hk
end mono
end Go.AE
