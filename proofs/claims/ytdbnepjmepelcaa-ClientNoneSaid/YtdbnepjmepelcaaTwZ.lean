/- A second machine for Go's model: rounds of loops over functions; all depths. Conditions: none. -/
import Derived.Test.YtdbnepjmepelcaaTwY
namespace Go.Tw

section moves
variable {P : Program} {b : Frame} {a : Act} {k : List Item} {c : Frame} {cs : List Frame} {w w' : World} {l : Nat}

theorem fs_beginRound (hr : b.roundOf = some l) (h : (Instr.beginRound l).run P w = .ok () w') :
    step P (lone (fat b a (.beginRound :: k)) cs w) = .next (lone (fat b a k) cs w') :=
  step_lone_go (by simp [stepG, stepG.exec, fat, hr, stepG.apply, h, Frame.finish, GStep.bare_after])

theorem fs_roundEnd {v : Value} (hr : b.roundOf = some l) (hk : b.kind = .normal) (h : (Instr.endRound l none).run P w = .ok v w') :
    step P (lone (fat b a []) (c :: cs) w) = .next (lone (c.finish v) cs w') :=
  step_lone_go (by simp [stepG, stepG.exec, fat, hr, Sem.runT_eq, h, doReturn, hk, GStep.bare_after])

theorem fs_roundRet {v : Value} (hr : b.roundOf = some l) (hk : b.kind = .normal) (h : (Instr.endRound l (some .ret)).run P w = .ok v w') :
    step P (lone (fat b a (.code .ret :: k)) (c :: cs) w) = .next (lone (c.finish v) cs w') :=
  step_lone_go (by simp [stepG, stepG.exec, fat, hr, Sem.runT_eq, h, doReturn, hk, GStep.bare_after])

theorem fs_roundExit {v : Value} {id : Nat} (hr : b.roundOf = some l) (hk : b.kind = .normal) (he : exitTo id k = none) (h : (Instr.endRound l (some (.exit id))).run P w = .ok v w') :
    step P (lone (fat b a (.code (.exit id) :: k)) (c :: cs) w) = .next (lone (c.finish v) cs w') :=
  step_lone_go (by simp [stepG, stepG.exec, fat, hr, he, Sem.runT_eq, h, doReturn, hk, GStep.bare_after])

theorem fs_roundGoto {v : Value} {id : Nat} (hr : b.roundOf = some l) (hk : b.kind = .normal) (he : gotoIn id k = none) (h : (Instr.endRound l (some (.goto id))).run P w = .ok v w') :
    step P (lone (fat b a (.code (.goto id) :: k)) (c :: cs) w) = .next (lone (c.finish v) cs w') :=
  step_lone_go (by simp [stepG, stepG.exec, fat, hr, he, Sem.runT_eq, h, doReturn, hk, GStep.bare_after])

end moves

theorem setAll_sound {ρ : Inj} : ∀ {ps : List Tmp} {vs vs' : List Value} {T T' : Tmps} {t : Array Value}, setAll ps vs T = some T' → TRel ρ T t → vs.length = vs'.length →
    (∀ (i : Nat) (u u' : Value), vs[i]? = some u → vs'[i]? = some u' → VRel ρ u u') → ps.length = vs.length ∧ TRel ρ T' ((ps.zip vs').foldl (fun t (p, v) => t.setIfInBounds p v) t)
  | [], [], vs', T, T', t, h, r, hl, hv => by
    cases h
    exact ⟨rfl, r⟩
  | p :: ps, v :: vs, [], T, T', t, h, r, hl, hv => by simp at hl
  | p :: ps, v :: vs, v' :: vs', T, T', t, h, r, hl, hv => by
    have h : setAll ps vs (T.set p (some v)) = some T' := h
    have r1 := r.set (hv 0 v v' rfl rfl) p
    obtain ⟨h1, h2⟩ := setAll_sound h r1 (by simpa using hl) (fun i u u' a b => hv (i + 1) u u' (by simpa using a) (by simpa using b))
    exact ⟨by simp [h1], h2⟩
  | [], _ :: _, vs', T, T', t, h, r, hl, hv => by cases h
  | _ :: _, [], vs', T, T', t, h, r, hl, hv => by cases h

theorem jumpOf_isNone {e : AExit} : (jumpOf e).isNone = true ↔ e = .norm := by cases e <;> simp [jumpOf]

theorem ds_nil {ρ : Inj} {l : List Deferred} (h : DsRel ρ [] l) : l = [] := by
  cases l with
  | nil => rfl
  | cons => exact h.elim

theorem aRound_sound {env : Env} (henv : EnvAll env) {lo : Lo} (hlo : LoOk env.P lo) (hdr : DrawSound env lo) {l : Nat} {args : List Value} {h h' : AHeap} {v : Value} (e : aRound env lo l args h = some (v, h')) :
    h.next ≤ h'.next ∧ ∀ ρ w args' l' x, Rel ρ h w → ρ l = some (l', x) → ARel ρ args.toArray args' → Free ρ h h' →
    ∃ v' w' ρ', RoundTo env.P l' args' w v' w' ∧ VRel ρ' v v' ∧ Rel ρ' h' w' ∧ Ext ρ h w ρ' h' w' := by
  unfold aRound at e
  split at e
  · rename_i s0 p0 fn T ps assign body df0 hl
    split at e
    · rename_i T' hT
      split at e
      · rename_i st1 h1
        split at e
        · rename_i pend fn1 T1 ps1 as1 bd1 df1 hds1 hl1
          split at e
          · rename_i ex st2 h2
            split at e
            · rename_i s2 p2 fn2 T2 ps2 as2 bd2 df2 hds2 hl2
              -- how it ends
              have hend : v = .bool (jumpOf ex).isNone ∧ h' = st2.h.put l (.loop (if (jumpOf ex).isNone then .ready else .done) (jumpOf ex) fn2 T2 ps2 as2 bd2 df2) := by
                split at e
                · cases e; exact ⟨rfl, rfl⟩
                · rename_i hne
                  cases e
                  cases ex <;> first | exact (hne rfl).elim | exact ⟨rfl, rfl⟩
              obtain ⟨rfl, rfl⟩ := hend
              have n1 := next_aCode hlo hdr codeFuel h1
              have n2 := next_aCode hlo hdr codeFuel h2
              simp only at n1
              have n2' : st1.h.next ≤ st2.h.next := n2
              refine ⟨Nat.le_trans n1 n2', fun ρ w args' l' x r hb ra hf => ?_⟩
              obtain ⟨t, df', y, hw0, ht, hd⟩ := loop_at r hb hl
              obtain ⟨hlen, ht'⟩ := setAll_sound (vs' := args'.toList) hT ht (by simpa using ra.1) (fun i u u' a b => ra.2 i u u' (by simpa using a) (by simpa using b))
              have hsz : args'.size = ps.size := by
                have := ra.1
                simp at this
                simp at hlen
                omega
              let tm := (ps.zip args').foldl (fun tmps (t, a) => tmps.setIfInBounds t a) t
              have htm : tm = (ps.toList.zip args'.toList).foldl (fun t (p, v) => t.setIfInBounds p v) t := by
                simp only [tm]
                rw [← Array.foldl_toList, Array.toList_zip]
              let b : Frame := { fn := fn, tmps := #[], todo := [], defers := [], mode := .run, kind := .normal, roundOf := some l' }
              obtain ⟨a1, w1, ρ1, r1, x1, s1⟩ := aCode_sound henv.toEnvOk hlo hdr codeFuel h1 (ρ := ρ) (a := { tmps := tm, defers := [] }) (w := w) (b := b) rfl ⟨l', x, rfl, hb⟩ ⟨htm ▸ ht', trivial, r⟩ (hf.left n2')
              have hb1 := x1.mono _ _ hb
              obtain ⟨t1, df1', y1, hw1, ht1, hd1⟩ := loop_at r1.h hb1 hl1
              let w1' : World := { w1 with heap := w1.heap.setIfInBounds l' (.loop { state := .busy, pending := pend, fn := fn1, tmps := t1, params := ps1, assign := as1, body := bd1, defers := df1' }) }
              obtain ⟨r1', x1'⟩ := r1.h.write (w' := w1') (x := .loop { state := .busy, pending := pend, fn := fn1, tmps := t1, params := ps1, assign := as1, body := bd1, defers := df1' }) hb1 hl1 rfl rfl
                (.loop .busy pend fn1 T1 t1 ps1 as1 bd1 df1 df1' _ y1 ht1 hd1)
              have hbegin : (Instr.beginRound l').run env.P w1 = .ok () w1' := by
                simp [Instr.beginRound, Instr.getLoop, getObj, setObj, Sem.run, hw1, w1']
              obtain ⟨a2, w2, ρ2, r2, x2, s2⟩ := aCode_sound henv.toEnvOk hlo hdr codeFuel h2 (ρ := ρ1) (a := a1) (w := w1') (b := b) rfl ⟨l', x, rfl, hb1⟩ ⟨r1.T, r1.ds, r1'⟩ ((hf.right x1).right x1')
              have hb2 := x2.mono _ _ hb1
              obtain ⟨t2, df2', y2, hw2, ht2, hd2⟩ := loop_at r2.h hb2 hl2
              let ns : LoopState := if (jumpOf ex).isNone then .ready else .done
              let w2' : World := { w2 with heap := w2.heap.setIfInBounds l' (.loop { state := ns, pending := jumpOf ex, fn := fn2, tmps := t2, params := ps2, assign := as2, body := bd2, defers := df2' }) }
              obtain ⟨r2', x2'⟩ := r2.h.write (w' := w2') (x := .loop { state := ns, pending := jumpOf ex, fn := fn2, tmps := t2, params := ps2, assign := as2, body := bd2, defers := df2' }) hb2 hl2 rfl rfl
                (.loop ns (jumpOf ex) fn2 T2 t2 ps2 as2 bd2 df2 df2' _ y2 ht2 hd2)
              have hendr : (Instr.endRound l' (jumpOf ex)).run env.P w2 = .ok (.bool (jumpOf ex).isNone) w2' := by
                simp [Instr.endRound, Instr.getLoop, getObj, setObj, Sem.run, hw2, w2', ns]
              refine ⟨.bool (jumpOf ex).isNone, w2', ρ2, ⟨fn, tm, assign, body, ?_, fun c cs => ?_⟩, .bool _, r2', ((x1.trans x1').trans x2).trans x2'⟩
              · simp [Instr.yield, Instr.getLoop, getObj, Sem.run, hw0, hsz, tm]
              · have hent : Frame.round l' fn tm assign body .normal = fat b { tmps := tm, defers := [] } [.code assign, .beginRound, .code body] := rfl
                rw [hent]
                have s1 := s1 [.beginRound, .code body] (c :: cs)
                have s1 := Steps.trans s1 (Steps.one (fs_beginRound (b := b) (a := a1) (k := [.code body]) rfl hbegin))
                have s2 := s2 [] (c :: cs)
                cases ex with
                | norm => exact s1.trans (Steps.trans s2 (Steps.one (fs_roundEnd rfl rfl hendr)))
                | ret => obtain ⟨todo, s2⟩ := s2; exact s1.trans (Steps.trans s2 (Steps.one (fs_roundRet rfl rfl hendr)))
                | exit id => obtain ⟨todo, s2, t2⟩ := s2; exact s1.trans (Steps.trans s2 (Steps.one (fs_roundExit rfl rfl t2 hendr)))
                | goto id => obtain ⟨todo, s2, t2⟩ := s2; exact s1.trans (Steps.trans s2 (Steps.one (fs_roundGoto rfl rfl t2 hendr)))
            · cases e
          · cases e
        · cases e
      · cases e
    · cases e
  · cases e

theorem lvl_ok {env : Env} (henv : EnvAll env) (hdr : ∀ lo, LoOk env.P lo → DrawSound env lo) : ∀ d, LoOk env.P (lvl env d)
  | 0 => { call := fun _ _ _ _ _ h => (nomatch h), dcall := fun _ _ _ _ h => (nomatch h), round := fun _ _ _ _ _ h => (nomatch h) }
  | d + 1 => by
    have ih := lvl_ok henv hdr d
    have hd := hdr _ ih
    refine ⟨fun f args h v h' e => ?_, fun f args h h' e => ?_, fun l args h v h' e => aRound_sound henv ih hd e⟩
    · have e : aCall env (lvl env d) f args h = some (v, h') := e
      unfold aCall at e
      split at e
      · rename_i s hs
        exact henv.sum f s hs args h v h' e
      · split at e
        · rename_i u hu
          cases e
          refine ⟨Nat.le_refl _, fun ρ w args' r ra hf => ?_⟩
          obtain ⟨v', w', h1, h2, h3⟩ := henv.ext f args _ hu ρ w args' ra
          exact ⟨v', w', ρ, .inl h1, h2, r.of_heap (HeapIs.heap h3), Ext.of_heap h3⟩
        · obtain ⟨n1, g1⟩ := aFrame_sound henv ih hd e .normal
          refine ⟨n1, fun ρ w args' r ra hf => ?_⟩
          obtain ⟨v', w', ρ', h1, h2, h3, h4, h5⟩ := g1 ρ w args' r ra hf
          exact ⟨v', w', ρ', .inr ⟨h1, h2⟩, h3, h4, h5⟩
    · have e : aDCall env (lvl env d) f args h = some h' := e
      unfold aDCall at e
      split at e
      · rename_i u h1 hu
        cases e
        obtain ⟨n1, g1⟩ := aFrame_sound henv ih hd hu .deferred
        refine ⟨n1, fun ρ w args' r ra hf => ?_⟩
        obtain ⟨v', w', ρ', h1, h2, h3, h4, h5⟩ := g1 ρ w args' r ra hf
        exact ⟨v', w', ρ', h1, h2, h4, h5⟩
      · cases e

end Go.Tw
