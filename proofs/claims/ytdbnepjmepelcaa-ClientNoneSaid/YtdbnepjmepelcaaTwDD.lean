/- A second machine for Go's model: statements whose order is open. Conditions: none. -/
import Derived.Test.YtdbnepjmepelcaaTwDC
namespace Go.Tw

/-- Temporaries, while some operations of a statement are done. -/
structure Tms (recs : List Rec) (st : St) (S : Nat → Prop) (ρ : Inj) (a : Act) : Prop where
  size : a.tmps.size = st.T.size
  done : ∀ i x t, recs[i]? = some x → S i → x.o.dst = some t → VRel ρ x.v (a.tmps.getD t undef)
  init : ∀ t v, (∀ i x, recs[i]? = some x → S i → x.o.dst ≠ some t) → st.T.t.get t = some v → VRel ρ v (a.tmps.getD t undef)
  ds : DsRel ρ st.ds a.defers

theorem wanted_of {ρ : Inj} {ops : Array Oper} {T : Tmps} {t : Array Value} {o : Oper} {b : Bool}
    (r : ∀ j want g d v, o.guard = some (j, want) → ops[j]? = some g → g.dst = some d → T.t.get d = some v → VRel ρ v (t.getD d undef))
    (h : aWanted ops T o = some b) : Region.wanted o (yielded ops t) = b := by
  unfold aWanted at h
  unfold Region.wanted
  split at h
  · rename_i hg
    cases h
    simp [hg]
  · rename_i j want hg
    rw [hg]
    simp only [yielded]
    split at h
    · rename_i ho
      cases h
      simp [ho]
    · rename_i g ho
      split at h
      · rename_i hd
        cases h
        simp [ho, hd]
      · rename_i d hd
        have key : ∀ u, T.t.get d = some u → (∃ u', t[d]? = some u' ∧ VRel ρ u u') ∨ t[d]? = none := by
          intro u hu
          cases e : t[d]? with
          | none => exact .inr rfl
          | some u' =>
            refine .inl ⟨u', rfl, ?_⟩
            have := r j want g d u hg ho hd hu
            rw [Array.getD_eq_getD_getElem?, e] at this
            exact this
        split at h
        · rename_i b0 hu
          cases h
          simp only [ho, Option.bind_some, hd]
          have := r j want g d _ hg ho hd hu
          rw [Array.getD_eq_getD_getElem?] at this
          cases e : t[d]? with
          | none => rw [e] at this; simp [undef] at this; cases this
          | some u' =>
            rw [e] at this
            simp at this
            cases this
            simp
        · rename_i vs hu
          cases h
          simp only [ho, Option.bind_some, hd]
          rcases key _ hu with ⟨u', e, ru⟩ | e
          · rw [e]; cases ru; rfl
          · rw [e]; rfl
        · cases h

section run
variable {env : Env} {lo : Lo} {ops : Array Oper} {recs : List Rec} {st s : St} {ρ0 : Inj} {w0 : World}

theorem Facts.op (F : Facts env lo ops recs st s) {i : Nat} {x : Rec} (h : recs[i]? = some x) : ops[i]? = some x.o := by
  have := (F.each i x h).1
  simpa using this

theorem Facts.unique (F : Facts env lo ops recs st s) (hn : namesOk ops (befs ops.toList) = true) {i j : Nat} {x y : Rec} {t : Tmp} (hx : recs[i]? = some x) (hy : recs[j]? = some y) (hne : i ≠ j) (ht : x.o.dst = some t) : y.o.dst ≠ some t :=
  (namesOk_spec hn (F.op hx) (F.op hy) hne ht).1

theorem Facts.tmps (F : Facts env lo ops recs st s) (hlim : st.T.size < lim) : ∀ j, j ≤ recs.length → (tmpsAt recs s.T j).size = st.T.size ∧
      (∀ t, (∀ i x, i < j → recs[i]? = some x → x.o.dst ≠ some t) → (tmpsAt recs s.T j).t.get t = st.T.t.get t) ∧
      (∀ i x t, i < j → recs[i]? = some x → x.o.dst = some t → (∀ i' x', i < i' → recs[i']? = some x' → x'.o.dst ≠ some t) → (tmpsAt recs s.T j).t.get t = some x.v) :=
  tmpsAt_spec hlim F.T0 F.each

theorem Tms.start {ρ : Inj} {a : Act} {w : World} (r : SRel ρ st a w) : Tms recs st (fun _ => False) ρ a where
  size := r.T.1
  done := fun _ _ _ _ h => h.elim
  init := fun t v _ h => r.T.2.2 t v h
  ds := r.ds

theorem Tms.step (F : Facts env lo ops recs st s) (hn : namesOk ops (befs ops.toList) = true) (hlim : st.T.size < lim) {S : Nat → Prop} {ρ ρ' : Inj} {a : Act} (m : Tms recs st S ρ a) (hm : ∀ b x, ρ b = some x → ρ' b = some x)
    {i : Nat} {x : Rec} (hx : recs[i]? = some x) {v' : Value} (rv : VRel ρ' x.v v') : Tms recs st (fun j => S j ∨ j = i) ρ' (a.put x.o.dst v') := by
  have hT : x.T.size = st.T.size := by
    have := (F.tmps hlim i (Nat.le_of_lt (rec_lt hx))).1
    simpa [tmpsAt, hx] using this
  have hd := (F.each i x hx).2.1
  have other : ∀ t : Tmp, x.o.dst ≠ some t → (a.put x.o.dst v').tmps.getD t undef = a.tmps.getD t undef := by
    intro t ht
    cases e : x.o.dst with
    | none => rfl
    | some d =>
      simp only [Act.put]
      rw [Array.getD_eq_getD_getElem?, Array.getD_eq_getD_getElem?, Array.getElem?_setIfInBounds_ne (fun e' => ht (by rw [e, e']))]
  refine ⟨?_, ?_, ?_, ?_⟩
  · cases e : x.o.dst with
    | none => exact m.size
    | some d => simpa [Act.put] using m.size
  · intro j y t hy hs ht
    by_cases e : j = i
    · subst e
      rw [hx] at hy
      cases hy
      have hlt := hd t ht
      have : (a.put x.o.dst v').tmps.getD t undef = v' := by
        rw [ht]
        have h2 : t < a.tmps.size := by rw [m.size, ← hT]; exact hlt
        simp [Act.put, Array.getD, h2]
      rw [this]
      exact rv
    · rw [other t (fun h => F.unique hn hy hx e ht h)]
      exact (m.done j y t hy (hs.resolve_right e) ht).mono hm
  · intro t v h hv
    rw [other t (h i x hx (.inr rfl))]
    exact (m.init t v (fun j y hy hs => h j y hy (.inl hs)) hv).mono hm
  · have : (a.put x.o.dst v').defers = a.defers := by cases x.o.dst <;> rfl
    rw [this]
    exact m.ds.mono hm

/-- What an operation that may come next finds in the temporaries that it names. -/
theorem Tms.named (F : Facts env lo ops recs st s) (hn : namesOk ops (befs ops.toList) = true) (hlim : st.T.size < lim) {S : Nat → Prop} {ρ : Inj} {a : Act} (m : Tms recs st S ρ a) (hc : Closed ops S)
    {i : Nat} {x : Rec} (hx : recs[i]? = some x) (hs : ¬ S i) (hp : ∀ e ∈ x.o.after, Region.binds .any e = true → S e.on) (t : Tmp) (ht : t ∈ namesOf ops x.o) (v : Value) (hv : x.T.t.get t = some v) :
    VRel ρ v (a.tmps.getD t undef) := by
  obtain ⟨_, h2, h3⟩ := F.tmps hlim i (Nat.le_of_lt (rec_lt hx))
  have eT : tmpsAt recs s.T i = x.T := by simp [tmpsAt, hx]
  rw [eT] at h2 h3
  by_cases he : ∃ (j : Nat) (y : Rec), recs[j]? = some y ∧ y.o.dst = some t
  · obtain ⟨j, y, hy, hd⟩ := he
    have uni : ∀ j' y', recs[j']? = some y' → j' ≠ j → y'.o.dst ≠ some t := fun j' y' hy' hne => F.unique hn hy hy' (fun e => hne e.symm) hd
    have old : ¬ j < i → ¬ S j → VRel ρ v (a.tmps.getD t undef) := by
      intro hji hsj
      refine m.init t v (fun j' y' hy' hs' => uni j' y' hy' (fun e => hsj (e ▸ hs'))) ?_
      rw [← h2 t (fun j' y' hlt hy' => uni j' y' hy' (fun e => hji (e ▸ hlt)))]
      exact hv
    by_cases hij : j = i
    · exact old (by omega) (hij ▸ hs)
    · have hb := (namesOk_spec hn (F.op hy) (F.op hx) hij hd).2 ht
      rcases Nat.lt_or_gt_of_ne hij with hlt | hlt
      · have hsj : S j := bit_done hc i (F.op hx) hp (hb.1 hlt)
        have e := h3 j y t hlt hy hd (fun j' y' hlt' hy' => uni j' y' hy' (by omega))
        rw [e] at hv
        cases hv
        exact m.done j y t hy hsj hd
      · refine old (by omega) (fun hsj => hs ?_)
        exact bit_done hc j (F.op hy) (fun e he hbi => hc j _ (F.op hy) hsj e he hbi) (hb.2 hlt)
  · have no : ∀ (j : Nat) (y : Rec), recs[j]? = some y → y.o.dst ≠ some t := fun j y hy hd => he ⟨j, y, hy, hd⟩
    refine m.init t v (fun j y hy _ => no j y hy) ?_
    rw [← h2 t (fun j y _ hy => no j y hy)]
    exact hv

theorem evOf_rel {ρ : Inj} {T : Tmps} {ts : List Tmp} {a : Act} (h : ∀ t ∈ ts, ∀ v, T.t.get t = some v → VRel ρ v (a.tmps.getD t undef)) (x : Operand) (v : Value) (e : evOf T ts x = some v) : VRel ρ v (a.eval x) := by
  cases x with
  | tmp t =>
    obtain ⟨h1, h2⟩ := cond_some (show cond (ts.any (Nat.beq t)) (T.t.get t) none = some v from e)
    obtain ⟨t', h3, h4⟩ := List.any_eq_true.mp h1
    have := Nat.eq_of_beq_eq_true h4
    subst this
    exact h t h3 v h2
  | const c =>
    obtain ⟨hp, h⟩ := cond_some (show cond (plain c) (some c) none = some v from e)
    cases h
    exact plain_rel ρ hp
  | global g => cases e
  | func f =>
    cases e
    exact .func (.func f) (fun l e => by cases e) #[] #[] #[] #[] rfl rfl (fun i u u' h => by simp at h) (fun i u u' h => by simp at h)

/-- The next effect. -/
theorem next_eff (recs : List Rec) : ∀ (n p : Nat), p + n = recs.length → ∃ q, p ≤ q ∧ q ≤ recs.length ∧ (q ∈ effIdx recs 0 ∨ q = recs.length) ∧ ∀ i x, p ≤ i → i < q → recs[i]? = some x → isEff x = false
  | 0, p, h => ⟨p, Nat.le_refl _, by omega, .inr (by omega), fun i x h1 h2 => by omega⟩
  | n + 1, p, h => by
    have hx : recs[p]? = some recs[p] := by simp
    cases he : isEff recs[p] with
    | true => exact ⟨p, Nat.le_refl _, by omega, .inl ((effIdx_mem recs 0 p).mpr ⟨p, _, hx, he, by omega⟩), fun i x h1 h2 => by omega⟩
    | false =>
      obtain ⟨q, h1, h2, h3, h4⟩ := next_eff recs n (p + 1) (by omega)
      refine ⟨q, by omega, h2, h3, fun i x h5 h6 hx' => ?_⟩
      by_cases e : i = p
      · subst e
        rw [hx] at hx'
        cases hx'
        exact he
      · exact h4 i x (by omega) h6 hx'

/-- One operation, whichever may come next. -/
theorem draw_step (F : Facts env lo ops recs st s) (hlo : LoOk env.P lo) (hn : namesOk ops (befs ops.toList) = true) (hlim : st.T.size < lim) (hch : chain (befs ops.toList) (effIdx recs 0) = true)
    (hlk : looksOk env.P ops (befs ops.toList) recs s.h (effIdx recs 0) recs 0 = true) {S : Nat → Prop} (hc : Closed ops S) {p i : Nat} {ρ : Inj} {a : Act} {w : World} {b : Frame} {x : Rec}
    (m : Mem recs st s ρ0 w0 S p ρ w) (mt : Tms recs st S ρ a) (hx : recs[i]? = some x) (hs : ¬ S i) (hp : ∀ e ∈ x.o.after, Region.binds .any e = true → S e.on) :
    ∃ p' ρ' a' w', Mem recs st s ρ0 w0 (fun j => S j ∨ j = i) p' ρ' w' ∧ Tms recs st (fun j => S j ∨ j = i) ρ' a' ∧
      ∀ k cs rest, Steps env.P (lone (fat b a (.inRegion ops (i :: rest) :: k)) cs w) (lone (fat b a' (.inRegion ops rest :: k)) cs w') := by
  have ho := F.op hx
  have hnm := fun t ht v hv => mt.named F hn hlim hc hx hs hp t ht v hv
  have he : ∀ z v, evOf x.T (namesOf ops x.o) z = some v → VRel ρ v (a.eval z) := evOf_rel hnm
  have hw : ∀ b, aWanted ops x.T x.o = some b → Region.wanted x.o (yielded ops a.tmps) = b := fun b => wanted_of (fun j want g d v h1 h2 h3 h4 => hnm d (by simp [namesOf, h1, h2, h3]) v h4)
  have still : isEff x = false → (∀ obj, x.k ≠ .make obj) → ∀ {p : Nat}, Mem recs st s ρ0 w0 S p ρ w → Mem recs st s ρ0 w0 (fun j => S j ∨ j = i) p ρ w := by
    intro h1 h2 p m
    refine m.congr (fun j y hy h => ⟨.inl, fun h3 => h3.resolve_right (fun e => ?_)⟩)
    subst e
    rw [hx] at hy
    cases hy
    rcases h with h | ⟨obj, h⟩
    · rw [h1] at h; cases h
    · exact h2 obj h
  obtain ⟨_, _, _, hr⟩ := F.each i x hx
  rcases hr with ⟨g1, g2, g3, g4, g5⟩ | ⟨g1, g2, g3⟩
  · -- it is not wanted
    refine ⟨p, ρ, a.put x.o.dst undef, w, still ?_ ?_ m, ?_, fun k cs rest => ?_⟩
    · obtain ⟨o, want, T, hh, v, kk⟩ := x
      cases kk <;> cases want <;> simp_all [isEff]
    · intro obj h; rw [g4] at h; cases h
    · exact mt.step F hn hlim (fun _ _ e => e) hx (by rw [g3]; exact undef_rel ρ)
    · have hs := fs_opSkip (P := env.P) (b := b) (a := a) (k := k) (cs := cs) (w := w) (ops := ops) (i := i) (rest := rest) (by rw [ho]; simpa using hw _ g2)
      rw [ho] at hs
      exact Steps.one hs
  · have hnd : ∀ c, x.o.op ≠ .defer c := fun c e => by rw [e, aKind_defer] at g3; cases g3
    have hwt := hw _ g2
    have hval : ∀ {v' : Value} {w' : World}, (execOp a.eval x.o).run env.P w = .ok (.value v') w' →
        ∀ k cs rest, Steps env.P (lone (fat b a (.inRegion ops (i :: rest) :: k)) cs w) (lone (fat b (a.put x.o.dst v') (.inRegion ops rest :: k)) cs w') :=
      fun h k cs rest => Steps.one (fs_value ho hwt (.inr hnd) h)
    cases hk : x.k with
    | pure =>
      rw [hk] at g3
      obtain ⟨v', h1, h2⟩ := aPure_sound he (aKind_pure g3).1 w
      refine ⟨p, ρ, _, w, still ?_ (fun obj h => by rw [hk] at h; cases h) m, mt.step F hn hlim (fun _ _ e => e) hx h2, hval h1⟩
      obtain ⟨o, want, T, hh, v, kk⟩ := x
      simp only at hk
      subst hk
      cases want <;> rfl
    | look =>
      have hne : isEff x = false := by
        obtain ⟨o, want, T, hh, v, kk⟩ := x
        simp only at hk
        subst hk
        cases want <;> rfl
      obtain ⟨q, q1, q2, q3, q4⟩ := next_eff recs (recs.length - p) p (by have := m.hp; omega)
      have mq := m.ups F hlo (q - p) (by omega) (fun j y h1 h2 h3 => q4 j y h1 (by omega) h3)
      rw [show p + (q - p) = q by omega] at mq
      have isS : ∀ e ∈ effIdx recs 0, (S e ↔ e < q) := fun e he => by
        obtain ⟨j, y, h1, h2, h3⟩ := (effIdx_mem recs 0 e).mp he
        have : e = j := by omega
        subst this
        exact mq.eff e y h1 h2
      have hlook := looksOk_spec recs 0 hlk i x hx hk g1 q (by rw [← F.len]; exact q3)
      rw [Nat.zero_add] at hlook
      rcases hlook with ⟨e, he1, he2, he3⟩ | ⟨e, he1, he2, he3⟩ | ⟨u, hu, hvs⟩
      · exfalso
        obtain ⟨j, y, h1, h2, h3⟩ := (effIdx_mem recs 0 e).mp he1
        have : e = j := by omega
        subst this
        have hse := (isS e he1).mpr he2
        exact hs (bit_done hc e (F.op h1) (fun e' he' hb' => hc e _ (F.op h1) hse e' he' hb') he3)
      · exfalso
        have := (isS e he1).mp (bit_done hc i ho hp he3)
        omega
      · have := vSame_eq _ _ _ hvs
        subst this
        obtain ⟨v', h1, h2⟩ := aLook_sound he mq.rel hu
        exact ⟨q, ρ, _, w, still hne (fun obj h => by rw [hk] at h; cases h) mq, mt.step F hn hlim (fun _ _ e => e) hx h2, hval h1⟩
    | make obj =>
      obtain ⟨_, h2, h3, f, h4, h5⟩ := F.make hx hk
      obtain ⟨y, v', w', h6, h7, h8⟩ := aMk_sound (ρ := ρ) he h4 w
      have hnone := (m.late i x obj hx hk hs).1
      have hm := Inj.add_mono (c := w.heap.size) (d := (0, 0)) hnone
      obtain ⟨h9, h10⟩ := h8 (ρ.add x.h.next w.heap.size (0, 0)) x.h.next hm (by simp [Inj.add])
      exact ⟨p, _, _, w', m.make F hlo hx hk hs h7 h9, mt.step F hn hlim hm hx (by rw [h5]; exact h10), hval h6⟩
    | eff =>
      have heff : isEff x = true := by
        obtain ⟨o, want, T, hh, v, kk⟩ := x
        simp only at hk g1
        subst hk
        subst g1
        rfl
      obtain ⟨_, hop⟩ := F.eff hx heff
      have hpi : p ≤ i := by
        rcases Nat.lt_or_ge i p with h | h
        · exact absurd ((m.eff i x hx heff).mpr h) hs
        · exact h
      have mi := m.ups F hlo (i - p) (by have := rec_lt hx; omega) (fun j y h1 h2 h3 => by
        cases hy : isEff y with
        | false => rfl
        | true =>
          have hb := chain_spec recs 0 hch j i y x (by omega) h3 hx hy heff
          rw [Nat.zero_add, Nat.zero_add] at hb
          have := (m.eff j y h3 hy).mp (bit_done hc i ho hp hb)
          omega)
      rw [show p + (i - p) = i by omega] at mi
      have rel := mi.rel
      rw [heapAt_rec hx] at rel
      obtain ⟨v', w', ρ', h1, h2, h3, h4⟩ := aOp_sound hlo he rel ho hwt (b := b) (.inr hnd) hop (mi.room F hlo hx heff)
      exact ⟨i + 1, ρ', _, w', mi.effect F hlo hx heff h3 h4, mt.step F hn hlim h4.mono hx h2, h1⟩

theorem count_set : ∀ (l : List Bool) (i : Nat), l[i]? = some false → (l.set i true).count false + 1 = l.count false
  | [], i, h => by simp at h
  | x :: l, 0, h => by simp at h; subst h; simp
  | x :: l, i + 1, h => by
    have := count_set l i (by simpa using h)
    simp only [List.set_cons_succ, List.count_cons]
    omega

/-- Whatever the order. -/
theorem draw_run (F : Facts env lo ops recs st s) (hlo : LoOk env.P lo) (hed : edgesOk ops.toList 0 = true) (hn : namesOk ops (befs ops.toList) = true) (hlim : st.T.size < lim)
    (hch : chain (befs ops.toList) (effIdx recs 0) = true) (hlk : looksOk env.P ops (befs ops.toList) recs s.h (effIdx recs 0) recs 0 = true) {b : Frame} :
    ∀ (fuel t : Nat) (listed : Array Bool) (p : Nat) (ρ : Inj) (a : Act) (w : World), listed.size = ops.size → listed.toList.count false ≤ fuel → Closed ops (fun i => listed.getD i false = true) →
      Mem recs st s ρ0 w0 (fun i => listed.getD i false = true) p ρ w → Tms recs st (fun i => listed.getD i false = true) ρ a →
      ∃ p' ρ' a' w' S, (∀ i, i < ops.size → S i) ∧ Mem recs st s ρ0 w0 S p' ρ' w' ∧ Tms recs st S ρ' a' ∧
        ∀ k cs, Steps env.P (lone (fat b a (.inRegion ops (Region.linearise.go .any ops fuel t listed []) :: k)) cs w) (lone (fat b a' (.inRegion ops [] :: k)) cs w') := by
  intro fuel
  induction fuel with
  | zero =>
    intro t listed p ρ a w hsz hcnt hc m mt
    refine ⟨p, ρ, a, w, _, fun i hi => ?_, m, mt, fun k cs => by simpa [Region.linearise.go] using Steps.refl _ _⟩
    have h0 : listed.toList.count false = 0 := by omega
    have hnf := List.count_eq_zero.mp h0
    have hi' : i < listed.size := by omega
    cases e : listed[i] with
    | true => simp [Array.getD, hi', e]
    | false => exact absurd (e ▸ (by simp : listed[i] ∈ listed.toList)) hnf
  | succ fuel ih =>
    intro t listed p ρ a w hsz hcnt hc m mt
    simp only [Region.linearise.go]
    change ∃ p' ρ' a' w' S, (∀ i, i < ops.size → S i) ∧ Mem recs st s ρ0 w0 S p' ρ' w' ∧ Tms recs st S ρ' a' ∧
        ∀ k cs, Steps env.P (lone (fat b a (.inRegion ops (match (Region.ready .any ops listed)[t % (Region.ready .any ops listed).length]? with
          | some i => Region.linearise.go .any ops fuel (t / (Region.ready .any ops listed).length) (listed.setIfInBounds i true) [i]
          | none => [].reverse) :: k)) cs w) (lone (fat b a' (.inRegion ops [] :: k)) cs w')
    cases hi : (Region.ready .any ops listed)[t % (Region.ready .any ops listed).length]? with
    | none =>
      have hnil : Region.ready .any ops listed = [] := by
        cases hr : Region.ready .any ops listed with
        | nil => rfl
        | cons x xs =>
          rw [hr] at hi
          have hlt : t % (x :: xs).length < (x :: xs).length := Nat.mod_lt _ (by simp)
          simp at hi
          simp at hlt
          omega
      refine ⟨p, ρ, a, w, _, fun i hi => ?_, m, mt, fun k cs => Steps.refl _ _⟩
      induction i using Nat.strongRecOn with
      | ind i ihi =>
        cases e : listed.getD i false with
        | true => rfl
        | false =>
          exfalso
          have hi' : i < listed.size := by omega
          have hopi : ops[i]? = some ops[i] := by simp
          have : i ∈ Region.ready .any ops listed := by
            rw [mem_ready]
            refine ⟨?_, ops[i], hopi, fun e he hb => ?_⟩
            · have h1 : listed.getD i false = listed[i] := by simp [Array.getD, hi']
              have h2 : listed.getD i true = listed[i] := by simp [Array.getD, hi']
              rw [h2, ← h1, e]
            · have := edgesOk_spec ops.toList 0 hed i ops[i] (by simp) e he hb
              exact ihi e.on (by omega) (by omega)
          rw [hnil] at this
          cases this
    | some i =>
      simp only []
      rw [linearise_go_acc, List.reverse_singleton, List.singleton_append]
      have hmem := List.mem_of_getElem? hi
      rw [mem_ready] at hmem
      obtain ⟨h0, o, ho, hall⟩ := hmem
      have hilt : i < ops.size := (Array.getElem?_eq_some_iff.1 ho).1
      have hil : i < listed.size := by omega
      have hf : listed[i] = false := by simpa [Array.getD, hil] using h0
      have hs : ¬ listed.getD i false = true := by simp [Array.getD, hil, hf]
      have hx : recs[i]? = some (recs[i]'(by rw [F.len]; exact hilt)) := by simp
      have hox := F.op hx
      rw [ho] at hox
      have eo : o = (recs[i]'(by rw [F.len]; exact hilt)).o := by simpa using hox
      obtain ⟨p', ρ', a', w', m', mt', st'⟩ := draw_step (b := b) F hlo hn hlim hch hlk hc m mt hx hs (fun e he hb => hall e (by rw [eo]; exact he) hb)
      have heq : ∀ j, (listed.setIfInBounds i true).getD j false = true ↔ (listed.getD j false = true ∨ j = i) := by
        intro j
        by_cases e : j = i
        · subst e
          simp [hil]
        · rw [getD_set_ne false (fun h => e h.symm)]
          simp [e]
      have eS : (fun j => listed.getD j false = true ∨ j = i) = (fun j => (listed.setIfInBounds i true).getD j false = true) := funext fun j => propext (heq j).symm
      rw [eS] at m' mt'
      obtain ⟨p2, ρ2, a2, w2, S2, hall2, m2, mt2, st2⟩ := ih (t / (Region.ready .any ops listed).length) (listed.setIfInBounds i true) p' ρ' a' w' (by simpa using hsz)
        (by
          have := count_set listed.toList i (by simp [hil, hf])
          rw [Array.toList_setIfInBounds]
          omega)
        (fun y oy hoy hsy e he hb => by
          have hsy := (heq y).mp hsy
          refine (heq e.on).mpr ?_
          rcases hsy with hsy | hsy
          · exact .inl (hc y oy hoy hsy e he hb)
          · subst hsy
            rw [ho] at hoy
            cases hoy
            exact .inl (hall e he hb)) m' mt'
      exact ⟨p2, ρ2, a2, w2, S2, hall2, m2, mt2, fun k cs => (st' k cs _).trans (st2 k cs)⟩

end run

theorem drawSound {env : Env} {lo : Lo} (hlo : LoOk env.P lo) : DrawSound env lo := by
  intro ops st s h
  unfold aDraw at h
  obtain ⟨hok, h⟩ := cond_some h
  unfold drawOk at hok
  rw [Bool.and_eq_true] at hok
  split at h
  · rename_i recs s' htr
    obtain ⟨hck, h⟩ := cond_some h
    cases h
    rw [Bool.and_eq_true] at hck
    obtain ⟨f1, f2, f3, f4, f5⟩ := aTrace_spec _ _ _ _ htr
    have F : Facts env lo ops recs st s := ⟨by simpa using f1, f2, f3, f4, f5⟩
    refine ⟨?_, fun ρ a w b t r hf => ?_⟩
    · have := F.next hlo (i := 0) (j := recs.length) (Nat.zero_le _) (Nat.le_refl _)
      rwa [F.h0, heapAt_end] at this
    · have hlim := r.T.2.1
      have start : (fun i => (Array.replicate ops.size false).getD i false = true) = (fun _ => False) := funext fun i => propext ⟨fun h => by
        by_cases hi : i < ops.size <;> simp [Array.getD, hi] at h, False.elim⟩
      obtain ⟨p, ρ', a', w', S, hall, m, mt, hst⟩ := draw_run (b := b) (ρ0 := ρ) (w0 := w) F hlo hok.1 hok.2 hlim hck.1 hck.2 ops.size t (Array.replicate ops.size false) 0 ρ a w (by simp) (by simp)
        (fun y o ho hs => ((congrFun start y).mp hs).elim)
        (by rw [start]; exact Mem.start F r.h hf hlo) (by rw [start]; exact Tms.start r)
      have hS : ∀ i x, recs[i]? = some x → S i := fun i x hx => hall i (by rw [← F.len]; exact rec_lt hx)
      have mn := m.ups F hlo (recs.length - p) (by have := m.hp; omega) (fun i x h1 h2 hx => by
        cases he : isEff x with
        | false => rfl
        | true =>
          have := (m.eff i x hx he).mp (hS i x hx)
          omega)
      rw [show p + (recs.length - p) = recs.length by have := m.hp; omega] at mn
      obtain ⟨r', e'⟩ := mn.done F hlo
      obtain ⟨t1, t2, t3⟩ := F.tmps hlim recs.length (Nat.le_refl _)
      have eT : tmpsAt recs s.T recs.length = s.T := by simp [tmpsAt]
      rw [eT] at t1 t2 t3
      refine ⟨a', w', ρ', ⟨⟨by rw [mt.size, t1], by rw [t1]; exact hlim, fun t v hv => ?_⟩, by rw [F.ds]; exact mt.ds, r'⟩, e', fun k cs => ?_⟩
      · by_cases he : ∃ (j : Nat) (y : Rec), recs[j]? = some y ∧ y.o.dst = some t
        · obtain ⟨j, y, hy, hd⟩ := he
          have e := t3 j y t (rec_lt hy) hy hd (fun j' y' hlt hy' => F.unique hok.2 hy hy' (by omega) hd)
          rw [e] at hv
          cases hv
          exact mt.done j y t hy (hS j y hy) hd
        · have no : ∀ (j : Nat) (y : Rec), recs[j]? = some y → y.o.dst ≠ some t := fun j y hy hd => he ⟨j, y, hy, hd⟩
          exact mt.init t v (fun j y hy _ => no j y hy) (by rw [← t2 t (fun j y _ hy => no j y hy)]; exact hv)
      · simpa [Region.schedule, Region.linearise] using hst k cs
  · cases h

end Go.Tw
