/- A second machine for Go's model: what a trace says. Conditions: none. -/
import Derived.Test.YtdbnepjmepelcaaTwDA
namespace Go.Tw

def putT (T : Tmps) (dst : Option Tmp) (v : Value) : Tmps := match dst with
  | some d => T.set d (some v)
  | none => T

theorem put_T (st : St) (dst : Option Tmp) (v : Value) : (st.put dst v).T = putT st.T dst v := by cases dst <;> rfl

def tmpsAt (recs : List Rec) (T : Tmps) (i : Nat) : Tmps := match recs[i]? with
  | some x => x.T
  | none => T

/-- What one operation of a trace did. -/
def RecOk (env : Env) (lo : Lo) (ops : Array Oper) (x : Rec) (h' : AHeap) : Prop :=
  (x.want = false ∧ aWanted ops x.T x.o = some false ∧ x.v = undef ∧ x.k = .pure ∧ h' = x.h) ∨
  (x.want = true ∧ aWanted ops x.T x.o = some true ∧ aKind env lo (evOf x.T (namesOf ops x.o)) x.h x.o.op = some (x.k, x.v, h'))

theorem aTrace_spec {env : Env} {lo : Lo} {ops : Array Oper} : ∀ (l : List Oper) (st s : St) (recs : List Rec), aTrace env lo ops l st = some (recs, s) →
    recs.length = l.length ∧ tmpsAt recs s.T 0 = st.T ∧ heapAt recs s.h 0 = st.h ∧ s.ds = st.ds ∧
    ∀ i x, recs[i]? = some x → l[i]? = some x.o ∧ (∀ d : Nat, x.o.dst = some d → d < x.T.size) ∧ tmpsAt recs s.T (i + 1) = putT x.T x.o.dst x.v ∧ RecOk env lo ops x (heapAt recs s.h (i + 1))
  | [], st, s, recs, h => by
    cases h
    exact ⟨rfl, rfl, rfl, rfl, fun i x hx => by simp at hx⟩
  | o :: l, st, s, recs, h => by
    unfold aTrace at h
    obtain ⟨hd, h⟩ := cond_some h
    have hdst : ∀ d : Nat, o.dst = some d → d < st.T.size := fun d e => by
      rw [e] at hd
      simp [Nat.blt] at hd
      omega
    have main : ∀ (x : Rec) (st1 : St) (r : List Rec), x.o = o → x.T = st.T → x.h = st.h → recs = x :: r → st1.T = putT st.T o.dst x.v → st1.ds = st.ds → aTrace env lo ops l st1 = some (r, s) →
        RecOk env lo ops x st1.h →
        recs.length = (o :: l).length ∧ tmpsAt recs s.T 0 = st.T ∧ heapAt recs s.h 0 = st.h ∧ s.ds = st.ds ∧
        ∀ i x, recs[i]? = some x → (o :: l)[i]? = some x.o ∧ (∀ d : Nat, x.o.dst = some d → d < x.T.size) ∧ tmpsAt recs s.T (i + 1) = putT x.T x.o.dst x.v ∧ RecOk env lo ops x (heapAt recs s.h (i + 1)) := by
      intro x st1 r e1 e2 e3 e4 e5 e6 ht hok
      obtain ⟨i1, i2, i3, i4, i5⟩ := aTrace_spec l st1 s r ht
      subst e4
      have sh : ∀ i, tmpsAt (x :: r) s.T (i + 1) = tmpsAt r s.T i := fun i => by simp [tmpsAt]
      have sh' : ∀ i, heapAt (x :: r) s.h (i + 1) = heapAt r s.h i := fun i => by simp [heapAt]
      refine ⟨by simp [i1], by simp [tmpsAt, e2], by simp [heapAt, e3], by rw [i4, e6], fun i y hy => ?_⟩
      cases i with
      | zero =>
        simp at hy
        subst hy
        refine ⟨by simp [e1], fun d hd => by rw [e2]; exact hdst d (e1 ▸ hd), ?_, ?_⟩
        · rw [sh, i2, e5, e1, e2]
        · rw [sh', i3]; exact hok
      | succ i =>
        rw [sh, sh']
        exact i5 i y (by simpa using hy)
    split at h
    · cases h
    · rename_i hw
      split at h
      · rename_i r s1 ht
        cases h
        refine main { o := o, want := false, T := st.T, h := st.h, v := undef, k := .pure } (st.put o.dst undef) r rfl rfl rfl rfl (put_T _ _ _) (put_ds _ _ _) ht ?_
        rw [put_h]
        exact .inl ⟨rfl, hw, rfl, rfl, rfl⟩
      · cases h
    · rename_i hw
      split at h
      · rename_i k v h' hk
        split at h
        · rename_i r s1 ht
          cases h
          refine main { o := o, want := true, T := st.T, h := st.h, v := v, k := k } ({ st with h := h' }.put o.dst v) r rfl rfl rfl rfl (put_T _ _ _) (put_ds _ _ _) ht ?_
          rw [put_h]
          exact .inr ⟨rfl, hw, hk⟩
        · cases h
      · cases h

theorem Tmps.set_get {T : Tmps} {d : Nat} (hd : d < T.size) (hl : T.size < lim) (v : Value) (t : Nat) : (T.set d (some v)).t.get t = if t = d then some v else T.t.get t := by
  have : Nat.blt d T.size = true := by simp [Nat.blt]; omega
  simp only [Tmps.set, this, cond_true]
  rw [Tr.get_setK 20 T.t d (some v) t (by unfold lim at hl; omega)]

theorem Tmps.set_size (T : Tmps) (d : Nat) (v : Option Value) : (T.set d v).size = T.size := by
  unfold Tmps.set
  cases Nat.blt d T.size <;> rfl

theorem putT_size (T : Tmps) (d : Option Tmp) (v : Value) : (putT T d v).size = T.size := by
  cases d with
  | none => rfl
  | some d => exact Tmps.set_size T d _

/-- What temporaries hold along a trace. -/
theorem tmpsAt_spec {env : Env} {lo : Lo} {ops : Array Oper} {recs : List Rec} {st s : St} (hlim : st.T.size < lim) (h0 : tmpsAt recs s.T 0 = st.T)
    (h : ∀ i x, recs[i]? = some x → ops.toList[i]? = some x.o ∧ (∀ d : Nat, x.o.dst = some d → d < x.T.size) ∧ tmpsAt recs s.T (i + 1) = putT x.T x.o.dst x.v ∧ RecOk env lo ops x (heapAt recs s.h (i + 1))) :
    ∀ j, j ≤ recs.length → (tmpsAt recs s.T j).size = st.T.size ∧
      (∀ t, (∀ i x, i < j → recs[i]? = some x → x.o.dst ≠ some t) → (tmpsAt recs s.T j).t.get t = st.T.t.get t) ∧
      (∀ i x t, i < j → recs[i]? = some x → x.o.dst = some t → (∀ i' x', i < i' → recs[i']? = some x' → x'.o.dst ≠ some t) → (tmpsAt recs s.T j).t.get t = some x.v)
  | 0, _ => ⟨by rw [h0], fun t _ => by rw [h0], fun i x t hi => by omega⟩
  | j + 1, hj => by
    obtain ⟨i1, i2, i3⟩ := tmpsAt_spec hlim h0 h j (by omega)
    have hx : recs[j]? = some recs[j] := by simp
    obtain ⟨_, hd, hT, _⟩ := h j _ hx
    have e : tmpsAt recs s.T j = recs[j].T := by simp [tmpsAt, hx]
    rw [e] at i1 i2 i3
    rw [hT]
    refine ⟨by rw [putT_size, i1], fun t ht => ?_, fun i x t hi hxi hdi hu => ?_⟩
    · have hne := ht j _ (by omega) hx
      have : (putT recs[j].T recs[j].o.dst recs[j].v).t.get t = recs[j].T.t.get t := by
        cases hdd : recs[j].o.dst with
        | none => rfl
        | some d =>
          simp only [putT]
          rw [Tmps.set_get (hd d hdd) (by omega), if_neg (fun e => hne (by rw [hdd, e]))]
      rw [this]
      exact i2 t (fun i x hi hxi => ht i x (by omega) hxi)
    · by_cases eij : i = j
      · subst eij
        rw [hx] at hxi
        cases hxi
        rw [hdi]
        simp only [putT]
        rw [Tmps.set_get (hd t hdi) (by omega), if_pos rfl]
      · have hne := hu j _ (by omega) hx
        have : (putT recs[j].T recs[j].o.dst recs[j].v).t.get t = recs[j].T.t.get t := by
          cases hdd : recs[j].o.dst with
          | none => rfl
          | some d =>
            simp only [putT]
            rw [Tmps.set_get (hd d hdd) (by omega), if_neg (fun e => hne (by rw [hdd, e]))]
        rw [this]
        exact i3 i x t (by omega) hxi hdi hu

/-! The same value. -/
theorem strEq_same {a b : ByteArray} (h : strEq a b = true) : a = b := by
  unfold strEq at h
  rw [bytesEq_eq] at h
  have h := eq_of_beq h
  obtain ⟨⟨x⟩⟩ := a
  obtain ⟨⟨y⟩⟩ := b
  simp at h
  rw [h]

mutual
theorem vSame_eq : ∀ (n : Nat) (u v : Value), vSame n u v = true → u = v
  | 0, _, _, h => by simp [vSame] at h
  | n + 1, u, v, h => by
    unfold vSame at h
    split at h
    · rename_i e; cases e
    · simp at h; subst h; rfl
    · simp at h; obtain ⟨rfl, rfl⟩ := h; rfl
    · rw [strEq_same h]
    · rfl
    · simp at h; subst h; rfl
    · simp at h; obtain ⟨rfl, rfl⟩ := h; rfl
    · simp at h; obtain ⟨⟨rfl, rfl⟩, rfl⟩ := h; rfl
    · simp at h; subst h; rfl
    · rfl
    · rfl
    · rename_i m t v u w e
      cases e
      rw [Bool.and_eq_true] at h
      have h1 := Nat.eq_of_beq_eq_true h.1
      have h2 := vSame_eq n _ _ h.2
      subst h1; subst h2; rfl
    · rename_i m x y e
      cases e
      have := vSames_eq n _ _ h
      rw [Array.toList_inj] at this
      subst this; rfl
    · rename_i m x y e
      cases e
      have := vSames_eq n _ _ h
      rw [Array.toList_inj] at this
      subst this; rfl
    · cases h
theorem vSames_eq : ∀ (n : Nat) (u v : List Value), vSames n u v = true → u = v
  | n, [], [], h => rfl
  | n + 1, u :: r, v :: s, h => by
    unfold vSames at h
    rw [Bool.and_eq_true] at h
    rw [vSame_eq n _ _ h.1, vSames_eq n _ _ h.2]
  | 0, _ :: _, _ :: _, h => by simp [vSames] at h
  | 0, [], _ :: _, h => by simp [vSames] at h
  | n + 1, [], _ :: _, h => by simp [vSames] at h
  | 0, _ :: _, [], h => by simp [vSames] at h
  | n + 1, _ :: _, [], h => by simp [vSames] at h
end

/-! Kinds. -/
theorem aKind_defer {env : Env} {lo : Lo} {ev : Operand → Option Value} {h : AHeap} {c : Call} : aKind env lo ev h (.defer c) = none := rfl

theorem aKind_eff {env : Env} {lo : Lo} {ev : Operand → Option Value} {h h' : AHeap} {o : Op} {v : Value} (hk : aKind env lo ev h o = some (.eff, v, h')) : aOp env lo ev h o = some (v, h') := by
  unfold aKind at hk
  unfold aOp
  split at hk
  · rename_i c hc
    split at hk
    · rename_i v1 h1 ho
      cases hk
      unfold aOp at ho
      rw [hc] at ho ⊢
      exact ho
    · cases hk
  · rename_i hc
    rw [hc]
    simp only [aSimple]
    split at hk
    · cases hk
    · rename_i hp
      rw [hp]
      split at hk
      · cases hk
      · rename_i hl
        rw [hl]
        split at hk
        · split at hk <;> cases hk
        · rename_i hm
          rw [hm]
          split at hk
          · rename_i v1 h1 he
            cases hk
            exact he
          · cases hk

theorem aKind_pure {env : Env} {lo : Lo} {ev : Operand → Option Value} {h h' : AHeap} {o : Op} {v : Value} (hk : aKind env lo ev h o = some (.pure, v, h')) : aPure env.P ev o = some v ∧ h' = h := by
  unfold aKind at hk
  split at hk
  · split at hk <;> cases hk
  · split at hk
    · rename_i hp
      cases hk
      exact ⟨hp, rfl⟩
    · split at hk
      · cases hk
      · split at hk
        · split at hk <;> cases hk
        · split at hk <;> cases hk

theorem aKind_look {env : Env} {lo : Lo} {ev : Operand → Option Value} {h h' : AHeap} {o : Op} {v : Value} (hk : aKind env lo ev h o = some (.look, v, h')) : h' = h := by
  unfold aKind at hk
  split at hk
  · split at hk <;> cases hk
  · split at hk
    · cases hk
    · split at hk
      · cases hk
        rfl
      · split at hk
        · split at hk <;> cases hk
        · split at hk <;> cases hk

theorem aKind_make {env : Env} {lo : Lo} {ev : Operand → Option Value} {h h' : AHeap} {o : Op} {v : Value} {obj : AObj} (hk : aKind env lo ev h o = some (.make obj, v, h')) :
    ∃ f, aMk env.P ev o = some (obj, f) ∧ v = f h.next ∧ h' = h.push obj ∧ h.next + 1 < lim := by
  unfold aKind at hk
  split at hk
  · split at hk <;> cases hk
  · split at hk
    · cases hk
    · split at hk
      · cases hk
      · split at hk
        · rename_i m hm
          split at hk
          · rename_i v1 h1 hp
            cases hk
            obtain ⟨hb, hp⟩ := cond_some hp
            cases hp
            exact ⟨m.2, by rw [hm], rfl, rfl, by simp [Nat.blt] at hb; omega⟩
          · cases hk
        · split at hk <;> cases hk

/-- What a make operation makes is this machine's own. -/
theorem aMk_excl {P : Program} {ev : Operand → Option Value} {o : Op} {obj : AObj} {f : Nat → Value} (h : aMk P ev o = some (obj, f)) : obj.excl = true := by
  unfold aMk at h
  split at h
  · unfold mkAlloc at h
    split at h <;> cases h
    rfl
  · split at h
    · cases h; rfl
    · cases h
  · split at h
    · unfold mkRow at h
      split at h
      · split at h
        · have h := (cond_some h).2
          split at h <;> cases h
          rfl
        · cases h
      · cases h
    · cases h
  · split at h
    · unfold mkSlice at h
      split at h
      · split at h
        · have h := (cond_some h).2
          cases h
          rfl
        · cases h
      · cases h
    · cases h
  · cases h; rfl
  · split at h
    · unfold mkBytes at h
      split at h
      · split at h
        · have h := (cond_some h).2
          cases h
          rfl
        · cases h
      · cases h
    · cases h
  · cases h

end Go.Tw
