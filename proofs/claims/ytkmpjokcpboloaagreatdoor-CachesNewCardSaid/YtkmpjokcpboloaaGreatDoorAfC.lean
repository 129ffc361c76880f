/-
  A part of the abstract evaluator's soundness: its operations agree with the model's. No conditions beyond the theorems' own.
-/
import Derived.Test.YtkmpjokcpboloaaGreatDoorAfB
set_option linter.unusedSimpArgs false
set_option linter.unusedVariables false
namespace Go.AE

section
variable {G : Gp} {μ : Inj} {h : H} {w : World} {t : Tr V} {ρ : Operand → Value} {fr : Frame} {cs : List Frame}

/-! methods -/
theorem recvAt_rel (s : Sim G μ h w) {xt : TypeId} {v : V} {c : Value} {p : Bool} {r : V} (hv : VRel μ v c) (hr : recvAt G.C h xt v p = some r) (wr : Option String) :
    ∃ rc, VRel μ r rc ∧ (receiverAt xt (.val c) p wr).run G.C.P w = .ok rc w := by
  unfold recvAt at hr
  split at hr
  · rename_i e hu; cases hr
    exact ⟨c, hv, by simp [receiverAt, run_underlying' hu, Place.get]⟩
  · rename_i e hu
    split at hr
    · rename_i b off
      obtain ⟨d, hd, a, rfl, hrun⟩ := loadL_rel s hv hr
      refine ⟨d, hd, ?_⟩
      cases wr with
      | none => simp [receiverAt, run_underlying' hu, Place.get, asAddr, hrun]
      | some n =>
        have : (Builtin.ssaWrapNilChk_ #[xt] xt #[.pointer (some a), strVal "", strVal n]).run G.C.P w = .ok (.pointer (some a)) w := rfl
        simp [receiverAt, run_underlying' hu, Place.get, this, asAddr, hrun]
    · cases hr
  · rename_i d hnp hu; cases hr
    refine ⟨c, hv, ?_⟩
    simp only [receiverAt, Sem.run_bind, run_underlying' hu, Result.andThen_ok]
    cases d <;> first | rfl | (rename_i e _; exact (hnp e rfl).elim) | (rename_i e; exact (hnp e rfl).elim)
  · cases hr

theorem methodV_rel (s : Sim G μ h w) {t : TypeId} {v : V} {c : Value} {name : String} {f : FuncId} {r : V} (hv : VRel μ v c) (hm : methodV G.C h t v name = some (f, r)) :
    ∃ rc, VRel μ r rc ∧ ∀ n, (Go.method (n + 1) t c name).run G.C.P w = .ok (f, rc) w := by
  unfold methodV at hm
  split at hm
  · cases hm
  · rename_i i hi
    have hi' : G.C.P.info? t = some i := hi
    split at hm
    · rename_i m hf
      split at hm
      · rename_i r' hr; cases hm
        obtain ⟨rc, hrc, hrun⟩ := recvAt_rel s hv hr (some ((name.splitOn ".").getLastD name))
        refine ⟨rc, hrc, fun n => ?_⟩
        rw [Array.find?_toList] at hf
        simp only [Go.method, Sem.run_bind, run_info hi', Result.andThen_ok, hf]
        simp only [follow, pure_bind, Sem.run_bind, Sem.run_pure, Result.andThen_ok, List.isEmpty, Array.isEmpty, List.size_toArray, List.length_nil, decide_true, if_true]
        rw [hrun]; rfl
      · cases hm
    · cases hm

theorem fuel_pos (n : Nat) : n + Made.depth = (n + 99) + 1 := rfl

theorem extract1 (c : Value) (l : List Value) : (⟨c :: l⟩ : Array Value).extract 1 (⟨c :: l⟩ : Array Value).size = ⟨l⟩ := by
  apply Array.ext'
  simp

theorem callM_rel (hok : FrOk fr) {ex : Exec} (hC : CtxOk G.C) (hex : ExOk G ex) (s : Sim G μ h w) {t : TypeId} {v : V} {c : Value} {name : String} {vs : List V} {args : List Value}
    (hv : VRel μ v c) (hvs : VRels μ vs args) : (callM G.C ex vs h (methodV G.C h t v name)).any (Acts G fr cs h.nx μ w (callMethod (.iface t c) name ⟨args⟩)) := by
  cases hm : methodV G.C h t v name with
  | none => trivial
  | some x =>
    obtain ⟨f, r⟩ := x
    obtain ⟨rc, hrc, hrun⟩ := methodV_rel s hv hm
    simp only [callM]
    refine R.any_mono (fun v h' g => ?_) _ (callF_rel (cs := cs) hok hC hex s (f := f) (VRels.cons hrc hvs))
    refine g.of_run ?_
    simp only [callMethod, Sem.run_bind, program, Sem.run, Result.andThen_ok, fuel_pos, hrun]
    congr 2
    apply Array.ext'
    simp

theorem callFn_rel (hok : FrOk fr) {ex : Exec} (hC : CtxOk G.C) (hex : ExOk G ex) (s : Sim G μ h w) {fn : Fn} {vs : List V} {args : List Value} (hvs : VRels μ vs args) :
    (callFn G.C ex fn vs h).any (Acts G fr cs h.nx μ w (Go.invoke (.fn fn #[]) ⟨args⟩)) := by
  unfold callFn
  split
  · rename_i f
    refine R.any_mono (fun v h' g => g.of_run ?_) _ (callF_rel (cs := cs) hok hC hex s (f := f) hvs)
    simp [Go.invoke]
  · rename_i name
    split
    · rename_i t v rest
      obtain ⟨c, cs', rfl, hc, hcs⟩ := hvs
      obtain ⟨c', rfl, hc'⟩ := hc
      refine R.any_mono (fun v h' g => g.of_run ?_) _ (callM_rel (cs := cs) hok hC hex s hc' hcs)
      simp only [Go.invoke]
      have h0 : (⟨Value.iface t c' :: cs'⟩ : Array Value)[0]? = some (.iface t c') := rfl
      simp only [h0, extract1]
    · trivial
  · rename_i t name
    split
    · rename_i v rest
      obtain ⟨c, cs', rfl, hc, hcs⟩ := hvs
      have h0 : (⟨c :: cs'⟩ : Array Value)[0]? = some c := rfl
      split
      · rename_i m hu
        split
        · rename_i t' v'
          obtain ⟨c', rfl, hc'⟩ := hc
          refine R.any_mono (fun v h' g => g.of_run ?_) _ (callM_rel (cs := cs) hok hC hex s hc' hcs)
          simp only [Go.invoke, h0, extract1, Sem.run_bind, run_underlying' hu, Result.andThen_ok]
        · trivial
      · rename_i d hni hu
        refine R.any_mono (fun v h' g => g.of_run ?_) _ (callM_rel (cs := cs) hok hC hex s hc hcs)
        simp only [Go.invoke, h0, extract1, Sem.run_bind, run_underlying' hu, Result.andThen_ok]
      · trivial
    · trivial
  · rename_i t f p
    split
    · rename_i v rest
      obtain ⟨c, cs', rfl, hc, hcs⟩ := hvs
      have h0 : (⟨c :: cs'⟩ : Array Value)[0]? = some c := rfl
      split
      · rename_i r hr
        obtain ⟨rc, hrc, hrun⟩ := recvAt_rel s hc hr none
        refine R.any_mono (fun v h' g => g.of_run ?_) _ (callF_rel (cs := cs) hok hC hex s (f := f) (VRels.cons hrc hcs))
        simp only [Go.invoke, h0, extract1, receiverVia, follow, pure_bind, Sem.run_bind, hrun, Result.andThen_ok]
        congr 2
        apply Array.ext'
        simp
      · trivial
    · trivial
  · trivial

theorem callV_rel (hok : FrOk fr) {ex : Exec} (hC : CtxOk G.C) (hex : ExOk G ex) (s : Sim G μ h w) {f : V} {c : Value} {vs : List V} {args : List Value} (hf : VRel μ f c) (hvs : VRels μ vs args) :
    (callV G.C ex f vs h).any (Acts G fr cs h.nx μ w (do let d ← Deferred.ofValue c ⟨args⟩; Go.invoke d.target d.args)) := by
  unfold callV
  split
  · rename_i f first capt
    obtain ⟨a', b', rfl, ha, hb⟩ := hf
    refine R.any_mono (fun v h' g => g.of_run ?_) _ (callF_rel (cs := cs) hok hC hex s (f := f) ((ha.append hvs).append hb))
    simp only [Deferred.ofValue, pure_bind, Go.invoke]
    congr 2
    apply Array.ext'
    simp
  · rename_i fn first hnf
    obtain ⟨a', b', rfl, ha, hb⟩ := hf
    cases hb
    refine R.any_mono (fun v h' g => g.of_run ?_) _ (callFn_rel (cs := cs) hok hC hex s (fn := fn) (ha.append hvs))
    simp only [Deferred.ofValue, pure_bind]
    congr 2
    apply Array.ext'
    simp
  · rename_i l
    obtain ⟨L, hL, rfl⟩ := hf
    refine R.any_mono (fun v h' g => g.of_run ?_) _ (roundF_rel (cs := cs) hok hex s hL hvs)
    simp only [Deferred.ofValue, pure_bind, Go.invoke]
    congr 2
    apply Array.ext'
    simp
  · trivial

/-! channels, on a machine of one goroutine -/
theorem obj_chan (s : Sim G μ h w) {b : Pos} {l : Loc} (hb : μ b = some l) {n buf cl sn rc} (hg : h.get b = .chan n buf cl sn rc) :
    ∃ buf', w.heap[l.blk]? = some (.chan n ⟨buf'⟩ cl sn rc false) ∧ VRels μ buf buf' := by
  have := s.obj b l hb
  rw [hg] at this
  exact this

theorem partners_lone (r : Nat) (b : Bool) : partners #[{ (default : Goroutine) with status := .finished }] r b = [] := rfl

theorem opSend_rel (s : Sim G μ h w) {x y : V} {c d : Value} (hx : VRel μ x c) (hy : VRel μ y d) :
    (opSend h (some x) (some y)).any (Acts G fr cs h.nx μ w (pure (.comm #[{ chan := c, send := some d, zero := .tuple #[] }] true .send))) := by
  unfold opSend
  split
  · rename_i r v e1 e2
    cases e1; cases e2
    obtain ⟨l, hl, rfl⟩ := hx
    split
    · rename_i cap buf sn rc hg
      split
      · rename_i hlt
        rw [bltN, decide_eq_true_eq] at hlt
        obtain ⟨buf', hobj, hb⟩ := obj_chan s hl hg
        have hlive : (h.get r).live = true := by rw [hg]; rfl
        have hsz := (s.obj r l hl).lt hlive
        have hlt' : buf'.length < cap := by rw [← hb.length]; exact hlt
        refine ⟨μ, { w with heap := w.heap.setIfInBounds l.blk (.chan cap ⟨buf' ++ [d]⟩ false (sn + 1) rc false) }, Go.undef, Inj.ext.refl _ _, by rw [H.nx_put]; exact Nat.le_refl _, ?_, VRel.undef _, ?_⟩
        · refine s.upd hl hlive (by rw [hg]; exact id) _ _ ?_ (by simp) ⟨rfl, rfl, rfl⟩ ?_
          · intro B hB; simp [Array.getElem?_setIfInBounds_ne (Ne.symm hB)]
          · exact ⟨_, by simp [hsz], hb.append (VRels.cons hy VRels.nil)⟩
        · refine Goes.comm (w1 := w) rfl ?_
          have hw : ways w #[{ (default : Goroutine) with status := .finished }] { chan := .chan (some l.blk), send := some d, zero := .tuple #[] } = [.buffer] := by
            simp [ways, hobj, partners_lone, hlt']
          have hz : (#[({ chan := .chan (some l.blk), send := some d, zero := .tuple #[] } : CommCase)].zipIdx.toList.map fun (c, k) => (k, c, ways w #[{ (default : Goroutine) with status := .finished }] c)) = [(0, { chan := .chan (some l.blk), send := some d, zero := .tuple #[] }, [.buffer])] := by
            simp [hw]
          unfold communicate
          simp only [hz]
          simp [hobj, choose, Sem.run, Question.forced, Goroutine.finishComm, commResult, lone, gor]
      · trivial
    · trivial
  · trivial

theorem okPairC_rel {v : V} {c : Value} {cases : Array CommCase} (hv : VRel μ v c) (ok : Bool) : VRel μ (okPair ok v true) (commResult cases (.recv ok) 0 c true) := by
  cases ok
  · exact hv
  · exact ⟨_, rfl, VRels.cons hv (VRels.cons rfl VRels.nil)⟩

theorem recv_comm {l : Loc} {cap : Nat} {v : Value} {buf : List Value} {cl : Bool} {sn rc : Nat} {z : Value} {bl : Bool} {sh : CommShape} (hobj : w.heap[l.blk]? = some (.chan cap ⟨v :: buf⟩ cl sn rc false)) :
    (communicate G.C.P { timers := #[], alone := none, slice := none } #[{ (default : Goroutine) with status := .finished }] 0 (gor fr cs) #[{ chan := .chan (some l.blk), send := none, zero := z }] bl sh w).1 =
      .next (lone (fr.finish (commResult #[{ chan := .chan (some l.blk), send := none, zero := z }] sh 0 v true)) cs { w with heap := w.heap.setIfInBounds l.blk (.chan cap ⟨buf⟩ cl sn (rc + 1) false) }) := by
  have hw : ways w #[{ (default : Goroutine) with status := .finished }] { chan := .chan (some l.blk), send := none, zero := z } = [.buffer] := by
    simp [ways, hobj]
  have hz : (#[({ chan := .chan (some l.blk), send := none, zero := z } : CommCase)].zipIdx.toList.map fun (c, k) => (k, c, ways w #[{ (default : Goroutine) with status := .finished }] c)) = [(0, { chan := .chan (some l.blk), send := none, zero := z }, [.buffer])] := by
    simp [hw]
  have he : (⟨v :: buf⟩ : Array Value).extract 1 (⟨v :: buf⟩ : Array Value).size = ⟨buf⟩ := extract1 v buf
  unfold communicate
  simp only [hz]
  simp [hobj, choose, Sem.run, Question.forced, Goroutine.finishComm, lone, gor, partners_lone]

theorem recv_sim (s : Sim G μ h w) {r : Pos} {l : Loc} (hl : μ r = some l) {cap : Nat} {v : V} {buf : List V} {cl : Bool} {sn rc : Nat} (hg : h.get r = .chan cap (v :: buf) cl sn rc) :
    ∃ c buf', w.heap[l.blk]? = some (.chan cap ⟨c :: buf'⟩ cl sn rc false) ∧ VRel μ v c ∧
      Sim G μ (h.put r (.chan cap buf cl sn (rc + 1))) { w with heap := w.heap.setIfInBounds l.blk (.chan cap ⟨buf'⟩ cl sn (rc + 1) false) } := by
  obtain ⟨b, hobj, hb⟩ := obj_chan s hl hg
  obtain ⟨c, buf', rfl, hc, hbs⟩ := hb
  have hlive : (h.get r).live = true := by rw [hg]; rfl
  have hsz := (s.obj r l hl).lt hlive
  refine ⟨c, buf', hobj, hc, s.upd hl hlive (by rw [hg]; exact id) _ _ ?_ (by simp) ⟨rfl, rfl, rfl⟩ ?_⟩
  · intro B hB; simp [Array.getElem?_setIfInBounds_ne (Ne.symm hB)]
  · exact ⟨_, by simp [hsz], hbs⟩

theorem opRecv_rel (s : Sim G μ h w) {ty : TypeId} {ok : Bool} {x : V} {c : Value} (hx : VRel μ x c) :
    (opRecv G.C h ty ok (some x)).any (Acts G fr cs h.nx μ w (do
      let .chan _ elem ← underlying ty | stuck "receive: channel type expected"
      pure (.comm #[{ chan := c, send := none, zero := ← zeroValue elem }] true (.recv ok)))) := by
  unfold opRecv
  split
  · rename_i dr e hu
    split
    · rename_i z0 hz
      obtain ⟨i, z, hi, hz, _⟩ := zeroV_spec hz
      unfold opRecv1
      split
      · rename_i r e1
        cases e1
        obtain ⟨l, hl, rfl⟩ := hx
        split
        · rename_i cap v buf cl sn rc hg
          obtain ⟨c, buf', hobj, hc, s'⟩ := recv_sim s hl hg
          refine ⟨μ, _, _, Inj.ext.refl _ _, by rw [H.nx_put]; exact Nat.le_refl _, s', okPairC_rel (cases := #[]) hc ok, ?_⟩
          refine Goes.comm (w1 := w) (cases := #[{ chan := .chan (some l.blk), send := none, zero := z }]) (bl := true) (sh := .recv ok) ?_ ?_
          · simp only [Sem.run_bind, run_underlying' hu, Result.andThen_ok, run_zero hi hz]; rfl
          · rw [recv_comm hobj]
            cases ok <;> rfl
        · trivial
      · trivial
    · trivial
  · trivial

theorem comm_sel (ch z v : Value) (k : Int) (ok : Bool) : commResult #[{ chan := ch, send := none, zero := z }] .select k v ok = .tuple #[goInt k, .bool ok, if (0 : Int) = k then v else z] := by
  simp [commResult]

theorem opSelect_rel (s : Sim G μ h w) {e : TypeId} {ty : TypeId} {x : V} {ρ : Operand → Value} {ch : Operand} (hx : VRel μ x (ρ ch)) {o : Oper} (ho : o.op = .select ⟨[⟨ch, none, e⟩]⟩ false) :
    (opSelect G.C h e (some x)).any (Acts G fr cs h.nx μ w (execOp ρ o)) := by
  unfold opSelect
  split
  · rename_i z0 hz
    obtain ⟨i, z, hi, hz, hzr⟩ := zeroV_spec hz
    have hex : (execOp ρ o).run G.C.P w = .ok (.comm #[{ chan := ρ ch, send := none, zero := z }] false .select) w := by
      simp only [execOp, ho]
      rw [Array.mapM_eq_mapM_toList]
      simp only [List.mapM_cons, List.mapM_nil, map_eq_pure_bind, bind_assoc, pure_bind, Sem.run_bind, run_zero hi hz, Result.andThen_ok, Option.map_none]
      rfl
    unfold opSelect1
    split
    · rename_i r e1
      cases e1
      obtain ⟨l, hl, hch⟩ := hx
      rw [hch] at hex
      split
      · rename_i cap v buf cl sn rc hg
        obtain ⟨c, buf', hobj, hc, s'⟩ := recv_sim s hl hg
        refine ⟨μ, _, .tuple #[.int .i64 0, .bool true, c], Inj.ext.refl _ _, by rw [H.nx_put]; exact Nat.le_refl _, s', ⟨_, rfl, VRels.cons rfl (VRels.cons rfl (VRels.cons hc VRels.nil))⟩, ?_⟩
        refine Goes.comm hex ?_
        rw [recv_comm hobj, comm_sel]
        rfl
      · rename_i cap sn rc hg
        obtain ⟨buf', hobj, hb⟩ := obj_chan s hl hg
        cases hb
        refine ⟨μ, w, .tuple #[.int .i64 (-1), .bool false, z], Inj.ext.refl _ _, Nat.le_refl _, s, ⟨_, rfl, VRels.cons rfl (VRels.cons rfl (VRels.cons (hzr μ) VRels.nil))⟩, ?_⟩
        refine Goes.comm hex ?_
        have hw : ways w #[{ (default : Goroutine) with status := .finished }] { chan := .chan (some l.blk), send := none, zero := z } = [] := by
          simp [ways, hobj, partners_lone]
        have hzz : (#[({ chan := .chan (some l.blk), send := none, zero := z } : CommCase)].zipIdx.toList.map fun (c, k) => (k, c, ways w #[{ (default : Goroutine) with status := .finished }] c)) = [(0, { chan := .chan (some l.blk), send := none, zero := z }, [])] := by
          simp [hw]
        unfold communicate
        simp only [hzz]
        simp [hobj, Goroutine.finishComm, lone, gor, comm_sel]
        rfl
      · trivial
    · trivial
  · trivial
end
end Go.AE
