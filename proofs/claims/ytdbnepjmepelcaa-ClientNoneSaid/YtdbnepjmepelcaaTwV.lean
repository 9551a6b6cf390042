/- A second machine for Go's model: operations one behind the other. Conditions: none. -/
import Derived.Test.YtdbnepjmepelcaaTwU
namespace Go.Tw

/-- A frame's state, here and there. -/
structure SRel (ρ : Inj) (st : St) (a : Act) (w : World) : Prop where
  T : TRel ρ st.T a.tmps
  ds : DsRel ρ st.ds a.defers
  h : Rel ρ st.h w

theorem TRel.set {ρ : Inj} {T : Tmps} {t : Array Value} (r : TRel ρ T t) {v v' : Value} (rv : VRel ρ v v') (i : Nat) : TRel ρ (T.set i (some v)) (t.setIfInBounds i v') := by
  obtain ⟨hs, hl, hv⟩ := r
  unfold Tmps.set
  cases hb : Nat.blt i T.size with
  | false =>
    have hi : ¬ i < T.size := fun h => by
      have : Nat.blt i T.size = true := by simp [Nat.blt]; omega
      rw [this] at hb; cases hb
    have e : t.setIfInBounds i v' = t := Array.setIfInBounds_eq_of_size_le (by omega)
    rw [e]
    exact ⟨hs, hl, hv⟩
  | true =>
    have hi : i < T.size := by simp [Nat.blt] at hb; omega
    refine ⟨by simpa using hs, hl, fun j u hu => ?_⟩
    simp only [cond_true] at hu
    rw [Tr.get_setK 20 T.t i (some v) j (by unfold lim at hl; omega)] at hu
    by_cases e : j = i
    · subst e
      simp at hu
      subst hu
      have : (t.setIfInBounds j v').getD j undef = v' := by
        simp [Array.getD, hs, hi]
      rw [this]
      exact rv
    · rw [if_neg e] at hu
      have : (t.setIfInBounds i v').getD j undef = t.getD j undef := by
        rw [Array.getD_eq_getD_getElem?, Array.getD_eq_getD_getElem?, Array.getElem?_setIfInBounds_ne (fun e' => e e'.symm)]
      rw [this]
      exact hv j u hu

theorem undef_rel (ρ : Inj) : VRel ρ undef undef := .tuple _ _ rfl (fun i u u' h => by simp at h)

theorem SRel.put {ρ : Inj} {st : St} {a : Act} {w : World} (r : SRel ρ st a w) {v v' : Value} (rv : VRel ρ v v') (dst : Option Tmp) : SRel ρ (st.put dst v) (a.put dst v') w := by
  cases dst with
  | none => exact r
  | some d => exact ⟨r.T.set rv d, r.ds, r.h⟩

theorem put_h (st : St) (dst : Option Tmp) (v : Value) : (st.put dst v).h = st.h := by cases dst <;> rfl
theorem put_ds (st : St) (dst : Option Tmp) (v : Value) : (st.put dst v).ds = st.ds := by cases dst <;> rfl

theorem aEval_sound {ρ : Inj} {T : Tmps} {a : Act} (r : TRel ρ T a.tmps) (x : Operand) (v : Value) (h : aEval T x = some v) : VRel ρ v (a.eval x) := by
  cases x with
  | tmp t => exact r.2.2 t v h
  | const c =>
    obtain ⟨hp, h⟩ := cond_some (show cond (plain c) (some c) none = some v from h)
    cases h
    exact plain_rel ρ hp
  | global g => cases h
  | func f =>
    cases h
    exact .func (.func f) (fun l e => by cases e) #[] #[] #[] #[] rfl rfl (fun i u u' h => by simp at h) (fun i u u' h => by simp at h)

theorem evOf_sub {T : Tmps} {ts : List Tmp} {x : Operand} {v : Value} (h : evOf T ts x = some v) : aEval T x = some v := by
  cases x with
  | tmp t => exact (cond_some (show cond _ (T.t.get t) none = some v from h)).2
  | const c => exact h
  | global g => exact h
  | func f => exact h

theorem aWanted_sound {ρ : Inj} {ops : Array Oper} {T : Tmps} {t : Array Value} (r : TRel ρ T t) {o : Oper} {b : Bool} (h : aWanted ops T o = some b) :
    Region.wanted o (yielded ops t) = b := by
  unfold aWanted at h
  unfold Region.wanted
  split at h
  · rename_i hg
    cases h
    simp [hg]
  · rename_i j want hg
    rw [hg]
    simp only [yielded]
    split at h
    · rename_i ho
      cases h
      simp [ho]
    · rename_i g ho
      split at h
      · rename_i hd
        cases h
        simp [ho, hd]
      · rename_i d hd
        have key : ∀ u, T.t.get d = some u → (∃ u', t[d]? = some u' ∧ VRel ρ u u') ∨ t[d]? = none := by
          intro u hu
          cases e : t[d]? with
          | none => exact .inr rfl
          | some u' =>
            refine .inl ⟨u', rfl, ?_⟩
            have := r.2.2 d u hu
            rw [Array.getD_eq_getD_getElem?, e] at this
            exact this
        split at h
        · rename_i b0 hu
          cases h
          simp only [ho, Option.bind_some, hd]
          have := r.2.2 d _ hu
          rw [Array.getD_eq_getD_getElem?] at this
          cases e : t[d]? with
          | none => rw [e] at this; simp [undef] at this; cases this
          | some u' =>
            rw [e] at this
            simp at this
            cases this
            simp
        · rename_i vs hu
          cases h
          simp only [ho, Option.bind_some, hd]
          rcases key _ hu with ⟨u', e, ru⟩ | e
          · rw [e]; cases ru; rfl
          · rw [e]; rfl
        · cases h

theorem aSimple_sound {P : Program} {ρ : Inj} {ev : Operand → Option Value} {ec : Operand → Value} (he : ∀ x v, ev x = some v → VRel ρ v (ec x)) {h h' : AHeap} {w : World} (r : Rel ρ h w) {o : Oper} {v : Value}
    (hl : aSimple P ev h o.op = some (v, h')) (hf : Free ρ h h') : EffOk P ρ h (execOp ec o) v h' w := by
  unfold aSimple at hl
  split at hl
  · rename_i u hu
    cases hl
    obtain ⟨v', h1, h2⟩ := aPure_sound he hu w
    exact ⟨w, ρ, r, Ext.refl _ _ _, .inl ⟨v', h1, h2⟩⟩
  · split at hl
    · rename_i u hu
      cases hl
      obtain ⟨v', h1, h2⟩ := aLook_sound he r hu
      exact ⟨w, ρ, r, Ext.refl _ _ _, .inl ⟨v', h1, h2⟩⟩
    · split at hl
      · rename_i m hm
        obtain ⟨obj, f⟩ := m
        obtain ⟨hb, hl⟩ := cond_some hl
        cases hl
        obtain ⟨x, v', w', h1, h2, h3⟩ := aMk_sound (ρ := ρ) he hm w
        have hn : ρ h.next = none := hf h.next (Nat.le_refl _) (Nat.lt_succ_self _)
        obtain ⟨h4, h5⟩ := h3 (ρ.add h.next w.heap.size (0, 0)) h.next (Inj.add_mono hn) (by simp [Inj.add])
        obtain ⟨r', e'⟩ := r.alloc (w' := w') (0, 0) (by simp [Nat.blt] at hb; omega) hn h2 h4
        exact ⟨w', _, r', e', .inl ⟨v', h1, h5⟩⟩
      · exact aEff_sound he r hl hf

/-- What is known of the program and of the functions beside it. -/
structure EnvOk (env : Env) : Prop where
  names : ∀ (f : FuncId) (fn : Func) (body : Code), env.P.funcs[f]? = some fn → fn.body = some body → (fn.name == "runtime.NumGoroutine") = false
  mixed : env.P.follows .mixedOrders = true

def kindOk (b : Frame) (round : Option Nat) (ρ : Inj) : Prop := match round with
  | none => b.roundOf = none
  | some l => ∃ l' x, b.roundOf = some l' ∧ ρ l = some (l', x)

theorem kindOk.mono {b : Frame} {round : Option Nat} {ρ ρ' : Inj} (hm : ∀ b x, ρ b = some x → ρ' b = some x) (h : kindOk b round ρ) : kindOk b round ρ' := by
  cases round with
  | none => exact h
  | some l => obtain ⟨l', x, h1, h2⟩ := h; exact ⟨l', x, h1, hm _ _ h2⟩

theorem aTarget_round {P : Program} {ρ : Inj} {ev : Operand → Option Value} {ec : Operand → Value} (he : ∀ x v, ev x = some v → VRel ρ v (ec x)) {c : Call} {l : Nat} {args : List Value}
    (h : aTarget P ev c = some (.round l args)) (t : TypeId) (w : World) :
    ∃ l' x args', ρ l = some (l', x) ∧ (do let d ← resolve ec c t; invoke d.target d.args : Sem Next).run P w = (Instr.yield l' args').run P w ∧ ARel ρ args.toArray args' := by
  unfold aTarget at h
  split at h
  · cases h
  · rename_i as has
    have ra := evList_arr he has
    split at h
    · cases h
    · rename_i f0 hc
      split at h
      · cases h
      · rename_i l0 first cap hf
        cases h
        have rf := he _ _ hf
        have hres : ∀ y, ec f0 = y → resolve ec c t = Deferred.ofValue y (c.args.map ec) := by
          intro y hy; subst hy
          simp only [resolve, hc]
        generalize hyy : ec f0 = y at rf
        rw [hres y hyy]
        cases rf with
        | yield _ l' x hb => exact ⟨l', x, c.args.map ec, hb, by simp [Deferred.ofValue, invoke], ra⟩
        | func fn hfn x x' y y' hx hy rx ry => exact absurd rfl (hfn _)
      · cases h
    · split at h
      · split at h <;> cases h
      · cases h

theorem isCall_some {o : Op} {c : Call} (h : isCall o = some c) : o = .call c ∧ ∀ b, c.callee ≠ .builtin b := by
  unfold isCall at h
  split at h
  · rename_i c0
    split at h
    · cases h
    · rename_i hne
      cases h
      exact ⟨rfl, fun b e => hne b e⟩
  · cases h

theorem next_aOp {env : Env} {lo : Lo} (hlo : LoOk env.P lo) {ev : Operand → Option Value} {h h' : AHeap} {o : Op} {v : Value} (e : aOp env lo ev h o = some (v, h')) : h.next ≤ h'.next := by
  unfold aOp at e
  split at e
  · split at e
    · exact (hlo.call _ _ _ _ _ e).1
    · exact (hlo.round _ _ _ _ _ e).1
    · cases e
  · exact next_aSimple e

theorem execOp_call {ec : Operand → Value} {o : Oper} {c : Call} (h : o.op = .call c) : execOp ec o = (do let d ← resolve ec c o.type; invoke d.target d.args) := by
  obtain ⟨dst, op, type, pos, after, guard⟩ := o
  simp only at h
  subst h
  rfl

/-- One operation that is wanted. -/
theorem aOp_sound {env : Env} {lo : Lo} (hlo : LoOk env.P lo) {ρ : Inj} {ev : Operand → Option Value} {a : Act} (he : ∀ x v, ev x = some v → VRel ρ v (a.eval x)) {h h' : AHeap} {w : World}
    (r : Rel ρ h w) {ops : Array Oper} {i : Nat} {o : Oper} {v : Value} (ho : ops[i]? = some o) (hw : Region.wanted o (yielded ops a.tmps) = true) {b : Frame}
    (hd : b.roundOf = none ∨ ∀ c, o.op ≠ .defer c) (hl : aOp env lo ev h o.op = some (v, h')) (hf : Free ρ h h') :
    ∃ v' w' ρ', OpTo env.P b ops i o a w v' w' ∧ VRel ρ' v v' ∧ Rel ρ' h' w' ∧ Ext ρ h w ρ' h' w' := by
  unfold aOp at hl
  split at hl
  · rename_i c hc
    obtain ⟨hop, _⟩ := isCall_some hc
    have hex : execOp a.eval o = (do let d ← resolve a.eval c o.type; invoke d.target d.args) := execOp_call hop
    split at hl
    · rename_i f args ht
      obtain ⟨args', h1, h2⟩ := aTarget_fn he ht o.type w
      obtain ⟨v', w', ρ', h3, h4, h5, h6⟩ := (hlo.call _ _ _ _ _ hl).2 ρ w args' r h2 hf
      refine ⟨v', w', ρ', fun k cs rest => ?_, h4, h5, h6⟩
      rcases h3 with h3 | ⟨h3, h7⟩
      · exact Steps.one (fs_value ho hw hd (by rw [hex, h1, h3]))
      · obtain ⟨fr, _, h8, h9⟩ := h7 (fat b a (.inRegion ops (i :: rest) :: k) :: cs)
        refine Steps.head (fs_enter ho hw hd (by rw [hex, h1, h3])) (h8.trans (Steps.one ?_))
        rw [fs_back h9, fat_finish, ho]
        rfl
    · rename_i l args ht
      obtain ⟨l', x, args', h0, h1, h2⟩ := aTarget_round he ht o.type w
      obtain ⟨v', w', ρ', ⟨f, tmps, assign, body, h3, h7⟩, h4, h5, h6⟩ := (hlo.round _ _ _ _ _ hl).2 ρ w args' l' x r h0 h2 hf
      refine ⟨v', w', ρ', fun k cs rest => ?_, h4, h5, h6⟩
      refine Steps.head (fs_round ho hw hd (by rw [hex, h1, h3])) ?_
      have := h7 (fat b a (.inRegion ops (i :: rest) :: k)) cs
      rw [fat_finish, ho] at this
      exact this
    · cases hl
  · obtain ⟨w', ρ', h1, h2, h3⟩ := aSimple_sound he r hl hf
    rcases h3 with ⟨v', h3, h4⟩ | ⟨h3, h4⟩
    · exact ⟨v', w', ρ', fun k cs rest => Steps.one (fs_value ho hw hd h3), h4, h1, h2⟩
    · subst h4
      exact ⟨undef, w', ρ', fun k cs rest => Steps.one (fs_skipped ho hw hd h3), undef_rel _, h1, h2⟩

theorem aDefer_sound {P : Program} {ρ : Inj} {ev : Operand → Option Value} {ec : Operand → Value} (he : ∀ x v, ev x = some v → VRel ρ v (ec x)) {c : Call} {d : Deferred}
    (h : aDefer ev c = some d) (t : TypeId) (w : World) : ∃ d', (resolve ec c t).run P w = .ok d' w ∧ DRel ρ d d' := by
  unfold aDefer at h
  split at h
  · rename_i f args hc has
    have ra := evList_arr he has
    split at h
    · rename_i g first cap hf
      cases h
      have rf := he _ _ hf
      have hres : ∀ y, ec f = y → resolve ec c t = Deferred.ofValue y (c.args.map ec) := by
        intro y hy; subst hy
        simp only [resolve, hc]
      generalize hyy : ec f = y at rf
      rw [hres y hyy]
      cases rf with
      | func fn hfn x x' y y' hx hy rx ry =>
      refine ⟨{ target := .fn (.func g) y', args := x' ++ (c.args.map ec) }, by simp [Deferred.ofValue], ?_, ?_⟩
      · have h1 : ARel ρ first x' := ⟨hx, rx⟩
        have := h1.append ra
        have e1 : (first.toList ++ args).toArray = first ++ args.toArray := by
          apply Array.ext'
          simp
        rw [e1]
        exact this
      · exact .func (.func g) hfn #[] #[] cap y' rfl hy (fun i u u' h => by simp at h) ry
    · cases h
  · cases h

theorem next_aSeq {env : Env} {lo : Lo} (hlo : LoOk env.P lo) {rd : Bool} {ops : Array Oper} : ∀ {l : List Oper} {st st' : St}, aSeq env lo rd ops l st = some st' → st.h.next ≤ st'.h.next
  | [], st, st', h => by cases h; exact Nat.le_refl _
  | o :: r, st, st', h => by
    unfold aSeq at h
    split at h
    · split at h
      · rename_i c _
        cases rd with
        | true => cases h
        | false =>
        simp only [cond_false] at h
        split at h
        · have := next_aSeq hlo h
          rw [put_h] at this
          exact this
        · cases h
      · split at h
        · rename_i v h' hv
          have := next_aSeq hlo h
          rw [put_h] at this
          exact Nat.le_trans (next_aOp hlo hv) this
        · cases h
    · have := next_aSeq hlo h
      rw [put_h] at this
      exact this
    · cases h

theorem aSeq_sound {env : Env} {lo : Lo} (hlo : LoOk env.P lo) {rd : Bool} {ops : Array Oper} {b : Frame} (hb : rd = false → b.roundOf = none) :
    ∀ (l : List Oper) (i : Nat) (st st' : St), ops.toList.drop i = l → aSeq env lo rd ops l st = some st' → ∀ ρ a w, SRel ρ st a w → Free ρ st.h st'.h →
    ∃ a' w' ρ', SRel ρ' st' a' w' ∧ Ext ρ st.h w ρ' st'.h w' ∧
      ∀ k cs, Steps env.P (lone (fat b a (.inRegion ops (List.range' i l.length) :: k)) cs w) (lone (fat b a' (.inRegion ops [] :: k)) cs w')
  | [], i, st, st', hi, h, ρ, a, w, r, hf => by
    cases h
    exact ⟨a, w, ρ, r, Ext.refl _ _ _, fun k cs => Steps.refl _ _⟩
  | o :: l, i, st, st', hi, h, ρ, a, w, r, hf => by
    have ho : ops[i]? = some o := by
      have : (ops.toList.drop i)[0]? = some o := by rw [hi]; rfl
      simpa using this
    have hi' : ops.toList.drop (i + 1) = l := by
      have : (ops.toList.drop i).drop 1 = l := by rw [hi]; rfl
      rw [List.drop_drop] at this
      exact this
    unfold aSeq at h
    split at h
    · rename_i hwt
      have hw := aWanted_sound r.T hwt
      split at h
      · rename_i c hc
        cases rd with
        | true => cases h
        | false =>
        simp only [cond_false] at h
        split at h
        · rename_i d hd
          obtain ⟨d', h1, h2⟩ := aDefer_sound (P := env.P) (aEval_sound r.T) hd o.type w
          have r1 : SRel ρ { st with ds := d :: st.ds } { a with defers := d' :: a.defers } w := ⟨r.T, ⟨h2, r.ds⟩, r.h⟩
          have r2 := r1.put (undef_rel ρ) o.dst
          obtain ⟨a', w', ρ', h3, h4, h5⟩ := aSeq_sound hlo hb l (i + 1) _ st' hi' h ρ _ w r2 (by rw [put_h]; exact hf)
          rw [put_h] at h4
          refine ⟨a', w', ρ', h3, h4, fun k cs => ?_⟩
          refine Steps.head (fs_defer ho hw (hb rfl) (d := d') (w' := w) ?_) (h5 k cs)
          obtain ⟨dst, op, type, pos, after, guard⟩ := o
          simp only at hc
          subst hc
          simp only at h1
          simp [execOp, h1]
        · cases h
      · rename_i hnd
        split at h
        · rename_i v h' hv
          have hn := next_aSeq hlo h
          rw [put_h] at hn
          obtain ⟨v', w1, ρ1, h1, h2, h3, h4⟩ := aOp_sound hlo (aEval_sound r.T) r.h ho hw (b := b) (.inr hnd) hv (hf.left hn)
          have r1 : SRel ρ1 { st with h := h' } a w1 := ⟨r.T.mono h4.mono, r.ds.mono h4.mono, h3⟩
          have r2 := r1.put h2 o.dst
          obtain ⟨a', w', ρ', h5, h6, h7⟩ := aSeq_sound hlo hb l (i + 1) _ st' hi' h ρ1 _ w1 r2 (by rw [put_h]; exact hf.right h4)
          rw [put_h] at h6
          exact ⟨a', w', ρ', h5, h4.trans h6, fun k cs => (h1 k cs _).trans (h7 k cs)⟩
        · cases h
    · rename_i hwt
      have hw := aWanted_sound r.T hwt
      have r2 := r.put (undef_rel ρ) o.dst
      obtain ⟨a', w', ρ', h3, h4, h5⟩ := aSeq_sound hlo hb l (i + 1) _ st' hi' h ρ _ w r2 (by rw [put_h]; exact hf)
      rw [put_h] at h4
      refine ⟨a', w', ρ', h3, h4, fun k cs => ?_⟩
      have hs := fs_opSkip (P := env.P) (b := b) (a := a) (k := k) (cs := cs) (w := w) (ops := ops) (i := i) (rest := List.range' (i + 1) l.length) (by rw [ho]; simpa using hw)
      rw [ho] at hs
      exact Steps.head hs (h5 k cs)
    · cases h

end Go.Tw
