/-
  A part of the abstract evaluator's soundness: its operations agree with the model's. No conditions beyond the theorems' own.
-/
import Derived.Test.YtkmpjokcpboloaaGreatDoorAeV
set_option linter.unusedSimpArgs false
set_option linter.unusedVariables false
namespace Go.AE

section
variable {G : Gp} {μ : Inj} {h : H} {w : World} {t : Tr V} {ρ : Operand → Value}

theorem natOf_rel {x : V} {c : Value} {n : Nat} (hx : VRel μ x c) (h : natOf x = some n) : ∃ k, c = .int k n := by
  cases x with
  | int k m =>
    simp only [natOf] at h
    cases m with
    | ofNat m => simp only [natI, Option.some.injEq] at h; subst h; exact ⟨k, hx⟩
    | negSucc m => simp [natI] at h
  | _ => simp [natOf] at h

theorem appendB_rel (s : Sim G μ h w) {ty tx oty : TypeId} {rest : List TypeId} {sv x : V} {cs cx : Value} (hsv : VRel μ sv cs) (hx : VRel μ x cx) :
    (appendB G.C h ty tx sv x).any (GivesV G h.nx μ w (Builtin.append_ ⟨ty :: tx :: rest⟩ oty #[cs, cx])) := by
  unfold appendB
  split
  · rename_i kd hd
    split
    · rename_i n hn
      obtain ⟨k, rfl⟩ := natOf_rel hx hn
      exact appendZ_rel s hd hsv
    · trivial
  · rename_i d hnk hd
    exact appendV_rel s hd (fun k e => hnk k e) hsv hx
  · trivial

theorem two_arr {x y : V} {args : Array Value} (hr : VRels μ [x, y] args.toList) : ∃ c d, args = #[c, d] ∧ VRel μ x c ∧ VRel μ y d := by
  obtain ⟨c, cs, e, h1, d, ds, e2, h2, h3⟩ := hr
  cases h3
  subst e2
  exact ⟨c, d, by rw [show args = ⟨args.toList⟩ from rfl, e], h1, h2⟩
theorem only_arr {x : V} {args : Array Value} (hr : VRels μ [x] args.toList) : ∃ c, args = #[c] ∧ VRel μ x c := by
  obtain ⟨c, cs, e, h1, h3⟩ := hr
  cases h3
  exact ⟨c, by rw [show args = ⟨args.toList⟩ from rfl, e], h1⟩

theorem builtinV_rel (s : Sim G μ h w) {b : Builtin} {ats : Array TypeId} {oty : TypeId} {consts : Array Bool} {args : Array Value} {vs : List V} (hr : VRels μ vs args.toList) :
    (builtinV G.C h b ats.toList vs).any (Gives G h.nx μ w (builtin b ats oty consts args)) := by
  have hats : ats = ⟨ats.toList⟩ := rfl
  unfold builtinV
  split
  · split
    · rename_i ty tx rest sv x ha
      obtain ⟨c, d, rfl, h1, h2⟩ := two_arr hr
      rw [hats, ha]
      exact R.any_mono (fun v h' g => GivesV.gives rfl g) _ (appendB_rel s h1 h2)
    · trivial
  · split
    · rename_i ty rest x ha
      split
      · rename_i d hd
        obtain ⟨c, rfl, h1⟩ := only_arr hr
        rw [hats, ha]
        exact R.any_mono (fun v h' g => GivesV.gives rfl g) _ (clearB_rel s hd h1)
      · trivial
    · trivial
  · split
    · rename_i ty rest dv x ha
      obtain ⟨c, d, rfl, h1, h2⟩ := two_arr hr
      rw [hats, ha]
      exact R.any_mono (fun v h' g => GivesV.gives rfl g) _ (copyB_rel s h1 h2)
    · trivial
  · split
    · rename_i ty rest p k n ha
      split
      · rename_i u m hu hm
        obtain ⟨c, d, rfl, h1, h2⟩ := two_arr hr
        rw [hats, ha]
        obtain rfl : d = .int k m := by
          have : d = .int k n := h2
          cases n with
          | ofNat q => simp only [natI, Option.some.injEq] at hm; subst hm; exact this
          | negSucc q => simp [natI] at hm
        exact R.any_mono (fun v h' g => GivesV.gives rfl g) _ (usB_rel s hu h1 k)
      · trivial
    · trivial
  · split
    · rename_i ty rest m k ha
      obtain ⟨c, d, rfl, h1, h2⟩ := two_arr hr
      rw [hats, ha]
      exact R.any_mono (fun v h' g => GivesV.gives rfl g) _ (deleteB_rel s h1 h2)
    · trivial
  · trivial

def isComm : Op → Bool
  | .send .. | .recv .. | .select .. => true
  | _ => false

/-- every operation that changes memory, but those of channels -/
theorem ef_rel (s : Sim G μ h w) {o : Oper} {f : Tr V → H → R} (hc : isComm o.op = false) (hk : compK G.C o.op = .ef f) (hr : OR G.C μ t ρ) :
    (f t h).any (Gives G h.nx μ w (execOp ρ o)) := by
  cases ho : o.op with
  | assign x =>
    rw [ho] at hk; cases hk
    refine R.any_ofV fun v hv => ?_
    exact ⟨μ, w, ρ x, _, Inj.ext.refl _ _, Nat.le_refl _, s, hr _ _ hv, by simp [execOp, ho], .inl rfl⟩
  | store ty a x =>
    rw [ho] at hk; cases hk
    exact R.any_mono (fun v h' g => by obtain ⟨rfl, g⟩ := g; exact g.gives (by simp only [execOp, ho])) _ (opStore_rel s hr)
  | mapUpdate ty m k x =>
    rw [ho] at hk; cases hk
    exact R.any_mono (fun v h' g => by obtain ⟨rfl, g⟩ := g; exact g.gives (by simp only [execOp, ho])) _ (opMapSet_rel s hr)
  | insert ty m k x =>
    rw [ho] at hk; cases hk
    exact R.any_mono (fun v h' g => by obtain ⟨rfl, g⟩ := g; exact g.gives (by simp only [execOp, ho])) _ (opMapSet_rel s hr)
  | mapEntry ty m k =>
    rw [ho] at hk; cases hk
    exact R.any_mono (fun v h' g => g.gives (by simp only [execOp, ho])) _ (opMapEntry_rel s hr)
  | entryStore ty m st x =>
    rw [ho] at hk; cases hk
    exact R.any_mono (fun v h' g => by obtain ⟨rfl, g⟩ := g; exact GivesU.gives (by simp only [execOp, ho]) g) _ (opEntryStore_rel (ty := ty) s hr)
  | range ty x =>
    rw [ho] at hk; cases hk
    exact R.any_mono (fun v h' g => g.gives (by simp only [execOp, ho])) _ (opRange_rel s hr)
  | next it isStr =>
    rw [ho] at hk; cases hk
    exact R.any_mono (fun v h' g => GivesV.gives (by simp only [execOp, ho]) g) _ (opNext_rel (oty := o.type) s hr)
  | convert src dst x =>
    rw [ho] at hk; simp only [compK, compConv] at hk
    split at hk
    · split at hk
      · split at hk <;> cases hk
      · cases hk
    · cases hk
  | call c =>
    rw [ho] at hk
    obtain ⟨cal, args, ats⟩ := c
    cases cal with
    | builtin b =>
      simp only [compK, compB] at hk
      split at hk
      · cases hk
      · cases hk
        simp only [opBuiltin]
        split
        · rename_i vs hvs
          have hrel := opds_rel hr hvs
          rw [exec_builtin ho]
          exact builtinV_rel s (by simpa using hrel)
        · trivial
    | _ => cases hk
  | send ch x => rw [ho] at hc; cases hc
  | recv ty ch ok => rw [ho] at hc; cases hc
  | select cs b => rw [ho] at hc; cases hc
  | _ => rw [ho] at hk; cases hk
end
end Go.AE
