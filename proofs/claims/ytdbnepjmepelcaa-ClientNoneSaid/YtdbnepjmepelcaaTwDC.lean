/- A second machine for Go's model: statements whose order is open: memory. Conditions: none. -/
import Derived.Test.YtdbnepjmepelcaaTwDB
namespace Go.Tw

/-- A block that was there unmapped gets its place. -/
theorem Rel.bind {ρ : Inj} {h : AHeap} {w w' : World} {b : Nat} {o : AObj} {x : Obj} (q : Ofs) (r : Rel ρ h w) (hf : ρ b = none) (ho : h.get b = some o ∨ h.next ≤ b)
    (hw : w'.heap = w.heap.push x) (hr : ORel (ρ.add b w.heap.size q) o q (some x)) : Rel (ρ.add b w.heap.size q) h w' := by
  have hm := Inj.add_mono (c := w.heap.size) (d := q) hf
  refine ⟨?_, ?_, ?_, r.small⟩
  · intro b1 c1 d1 o1 h1 h2
    by_cases e : b1 = b
    · subst e
      simp [Inj.add] at h1
      obtain ⟨rfl, rfl⟩ := h1
      rcases ho with ho | ho
      · rw [ho] at h2
        cases h2
        rw [hw]
        simpa using hr
      · rw [AHeap.get_none ho] at h2; cases h2
    · simp [Inj.add, e] at h1
      have hc := r.dom _ _ _ h1
      rw [hw, Array.getElem?_push_lt hc, ← Array.getElem?_eq_getElem hc]
      exact (r.obj b1 c1 d1 o1 h1 h2).mono hm
  · intro b1 b2 c1 d1 d2 o1 o2 hne h1 h2 g1 g2 he hl
    by_cases e1 : b1 = b
    · have e2 : ¬ b2 = b := fun e => hne (e1.trans e.symm)
      simp [Inj.add, e1] at h1
      simp [Inj.add, e2] at h2
      have := r.dom _ _ _ h2
      omega
    · simp [Inj.add, e1] at h1
      by_cases e2 : b2 = b
      · simp [Inj.add, e2] at h2
        have := r.dom _ _ _ h1
        omega
      · simp [Inj.add, e2] at h2
        exact r.sep b1 b2 c1 d1 d2 o1 o2 hne h1 h2 g1 g2 he hl
  · intro b1 c1 d1 h1
    rw [hw]
    by_cases e : b1 = b
    · simp [Inj.add, e] at h1
      simp
      omega
    · simp [Inj.add, e] at h1
      have := r.dom b1 c1 d1 h1
      simp
      omega

/-- A block that has its place already comes to memory. -/
theorem Rel.come {ρ : Inj} {h : AHeap} {w : World} {o : AObj} (r : Rel ρ h w) (hl : h.next + 1 < lim) (ho : ρ h.next = none ∨ ∃ c, ρ h.next = some (c, (0, 0)) ∧ ORel ρ o (0, 0) w.heap[c]? ∧ ¬ Live ρ h c) :
    Rel ρ (h.push o) w := by
  have hg : ∀ j, (h.push o).get j = if j = h.next then some o else h.get j := AHeap.get_push o r.small
  have excl_live : ∀ o : AObj, o.excl = true → o.live = true := fun o e => by cases o <;> simp_all [AObj.excl, AObj.live]
  refine ⟨?_, ?_, r.dom, hl⟩
  · intro b1 c1 d1 o1 h1 h2
    rw [hg] at h2
    by_cases e : b1 = h.next
    · subst e
      simp at h2
      subst h2
      rcases ho with ho | ⟨c, ho, h3, h4⟩
      · rw [ho] at h1; cases h1
      · rw [ho] at h1
        cases h1
        exact h3
    · rw [if_neg e] at h2
      exact r.obj b1 c1 d1 o1 h1 h2
  · intro b1 b2 c1 d1 d2 o1 o2 hne h1 h2 g1 g2 he hl2
    rw [hg] at g1 g2
    by_cases e1 : b1 = h.next
    · have e2 : ¬ b2 = h.next := fun e => hne (e1.trans e.symm)
      rw [if_neg e2] at g2
      subst e1
      rcases ho with ho | ⟨c, ho, h3, h4⟩
      · rw [ho] at h1; cases h1
      · rw [ho] at h1
        cases h1
        exact h4 ⟨b2, d2, o2, h2, g2, hl2⟩
    · rw [if_neg e1] at g1
      by_cases e2 : b2 = h.next
      · subst e2
        rcases ho with ho | ⟨c, ho, h3, h4⟩
        · rw [ho] at h2; cases h2
        · rw [ho] at h2
          cases h2
          exact h4 ⟨b1, d1, o1, h1, g1, excl_live _ he⟩
      · rw [if_neg e2] at g2
        exact r.sep b1 b2 c1 d1 d2 o1 o2 hne h1 h2 g1 g2 he hl2

structure Facts (env : Env) (lo : Lo) (ops : Array Oper) (recs : List Rec) (st s : St) : Prop where
  len : recs.length = ops.size
  T0 : tmpsAt recs s.T 0 = st.T
  h0 : heapAt recs s.h 0 = st.h
  ds : s.ds = st.ds
  each : ∀ i x, recs[i]? = some x → ops.toList[i]? = some x.o ∧ (∀ d : Nat, x.o.dst = some d → d < x.T.size) ∧ tmpsAt recs s.T (i + 1) = putT x.T x.o.dst x.v ∧ RecOk env lo ops x (heapAt recs s.h (i + 1))

section facts
variable {env : Env} {lo : Lo} {ops : Array Oper} {recs : List Rec} {st s : St}

theorem heapAt_rec {i : Nat} {x : Rec} (h : recs[i]? = some x) (hp : AHeap) : heapAt recs hp i = x.h := by simp [heapAt, h]

theorem rec_lt {i : Nat} {x : Rec} (h : recs[i]? = some x) : i < recs.length := (List.getElem?_eq_some_iff.1 h).1

theorem Facts.make (F : Facts env lo ops recs st s) {i : Nat} {x : Rec} {obj : AObj} (h : recs[i]? = some x) (hk : x.k = .make obj) :
    x.want = true ∧ heapAt recs s.h (i + 1) = x.h.push obj ∧ x.h.next + 1 < lim ∧ ∃ f, aMk env.P (evOf x.T (namesOf ops x.o)) x.o.op = some (obj, f) ∧ x.v = f x.h.next := by
  obtain ⟨_, _, _, hr⟩ := F.each i x h
  rcases hr with ⟨_, _, _, h4, _⟩ | ⟨h1, _, h3⟩
  · rw [hk] at h4; cases h4
  · rw [hk] at h3
    obtain ⟨f, g1, g2, g3, g4⟩ := aKind_make h3
    exact ⟨h1, g3, g4, f, g1, g2⟩

theorem Facts.quiet (F : Facts env lo ops recs st s) {i : Nat} {x : Rec} (h : recs[i]? = some x) (he : isEff x = false) (hk : ∀ obj, x.k ≠ .make obj) : heapAt recs s.h (i + 1) = x.h := by
  obtain ⟨_, _, _, hr⟩ := F.each i x h
  rcases hr with ⟨_, _, _, _, h5⟩ | ⟨h1, _, h3⟩
  · exact h5
  · obtain ⟨o, want, T, hh, v, k⟩ := x
    cases k with
    | pure => exact (aKind_pure h3).2
    | look => exact aKind_look h3
    | make obj => exact absurd rfl (hk obj)
    | eff =>
      simp only at h1
      subst h1
      cases he

theorem Facts.eff (F : Facts env lo ops recs st s) {i : Nat} {x : Rec} (h : recs[i]? = some x) (he : isEff x = true) :
    x.want = true ∧ aOp env lo (evOf x.T (namesOf ops x.o)) x.h x.o.op = some (x.v, heapAt recs s.h (i + 1)) := by
  obtain ⟨_, _, _, hr⟩ := F.each i x h
  obtain ⟨o, want, T, hh, v, k⟩ := x
  cases k <;> cases want <;> try (cases he; done)
  rcases hr with ⟨h1, _⟩ | ⟨_, _, h3⟩
  · cases h1
  · exact ⟨rfl, aKind_eff h3⟩

theorem eff_not_make {x : Rec} (he : isEff x = true) (obj : AObj) : x.k ≠ .make obj := by
  obtain ⟨o, want, T, hh, v, k⟩ := x
  cases k <;> cases want <;> simp_all [isEff]

theorem Facts.next1 (F : Facts env lo ops recs st s) (hlo : LoOk env.P lo) {i : Nat} {x : Rec} (h : recs[i]? = some x) : x.h.next ≤ (heapAt recs s.h (i + 1)).next := by
  cases he : isEff x with
  | true => exact next_aOp hlo (F.eff h he).2
  | false =>
    by_cases hk : ∃ obj, x.k = .make obj
    · obtain ⟨obj, hk⟩ := hk
      rw [(F.make h hk).2.1]
      exact Nat.le_succ _
    · rw [F.quiet h he (fun obj e => hk ⟨obj, e⟩)]
      exact Nat.le_refl _

theorem Facts.next (F : Facts env lo ops recs st s) (hlo : LoOk env.P lo) {i : Nat} : ∀ {j : Nat}, i ≤ j → j ≤ recs.length → (heapAt recs s.h i).next ≤ (heapAt recs s.h j).next
  | 0, hij, hj => by
    have : i = 0 := by omega
    subst this
    exact Nat.le_refl _
  | j + 1, hij, hj => by
    by_cases e : i = j + 1
    · subst e; exact Nat.le_refl _
    · have hx : recs[j]? = some recs[j] := by simp
      have h1 := F.next hlo (i := i) (j := j) (by omega) (by omega)
      have h2 := F.next1 hlo hx
      rw [heapAt_rec hx] at h1
      exact Nat.le_trans h1 h2

/-- What a block made at an operation is called. -/
theorem Facts.id_lt (F : Facts env lo ops recs st s) (hlo : LoOk env.P lo) {i j : Nat} {x : Rec} {obj : AObj} (h : recs[i]? = some x) (hk : x.k = .make obj) (hij : i < j) (hj : j ≤ recs.length) :
    x.h.next < (heapAt recs s.h j).next := by
  have h1 := F.next hlo (i := i + 1) (j := j) hij hj
  rw [(F.make h hk).2.1] at h1
  have : (x.h.push obj).next = x.h.next + 1 := rfl
  omega

theorem Facts.id_ge (F : Facts env lo ops recs st s) (hlo : LoOk env.P lo) {i j : Nat} {x : Rec} (h : recs[i]? = some x) (hij : j ≤ i) : (heapAt recs s.h j).next ≤ x.h.next := by
  have := F.next hlo (i := j) (j := i) hij (Nat.le_of_lt (rec_lt h))
  rwa [heapAt_rec h] at this

theorem heapAt_end (h : AHeap) : heapAt recs h recs.length = h := by simp [heapAt]

end facts

/-- Memory, while some operations of a statement are done. -/
structure Mem (recs : List Rec) (st s : St) (ρ0 : Inj) (w0 : World) (S : Nat → Prop) (p : Nat) (ρ : Inj) (w : World) : Prop where
  hp : p ≤ recs.length
  eff : ∀ i x, recs[i]? = some x → isEff x = true → (S i ↔ i < p)
  rel : Rel ρ (heapAt recs s.h p) w
  late : ∀ i x obj, recs[i]? = some x → x.k = .make obj → ¬ S i → ρ x.h.next = none ∧ (i < p → (heapAt recs s.h p).get x.h.next = some obj)
  early : ∀ i x obj, recs[i]? = some x → x.k = .make obj → S i → p ≤ i → ∃ c, ρ x.h.next = some (c, (0, 0)) ∧ ORel ρ obj (0, 0) w.heap[c]? ∧ ¬ Live ρ (heapAt recs s.h p) c ∧ w0.heap.size ≤ c
  apart : ∀ i j x y obj obj' c d d', i ≠ j → recs[i]? = some x → recs[j]? = some y → x.k = .make obj → y.k = .make obj' → S i → S j → p ≤ i → p ≤ j →
    ρ x.h.next = some (c, d) → ρ y.h.next = some (c, d') → False
  free : ∀ b, (heapAt recs s.h p).next ≤ b → b < s.h.next → ρ b = none ∨ ∃ i x obj, recs[i]? = some x ∧ x.k = .make obj ∧ S i ∧ p ≤ i ∧ b = x.h.next
  mono : ∀ b x, ρ0 b = some x → ρ b = some x
  same : ∀ b, (b < st.h.next ∨ s.h.next ≤ b) → ρ b = ρ0 b
  size : w0.heap.size ≤ w.heap.size
  frame : ∀ c, c < w0.heap.size → ¬ Mine ρ0 st.h c → w.heap[c]? = w0.heap[c]?
  aframe : ∀ b, b < st.h.next → ρ0 b = none → (heapAt recs s.h p).get b = st.h.get b
  fresh : ∀ c, Mine ρ (heapAt recs s.h p) c → c < w0.heap.size → Mine ρ0 st.h c
  live : ∀ c, Live ρ (heapAt recs s.h p) c → c < w0.heap.size → Live ρ0 st.h c
  out : Kept w0 w

section mem
variable {env : Env} {lo : Lo} {ops : Array Oper} {recs : List Rec} {st s : St} {ρ0 : Inj} {w0 : World}

theorem Mem.start (F : Facts env lo ops recs st s) {ρ : Inj} {w : World} (r : Rel ρ st.h w) (hf : Free ρ st.h s.h) (hlo : LoOk env.P lo) : Mem recs st s ρ w (fun _ => False) 0 ρ w where
  hp := Nat.zero_le _
  eff := fun i x _ _ => by simp
  rel := by rw [F.h0]; exact r
  late := fun i x obj h hk _ => by
    refine ⟨?_, fun h => by omega⟩
    have h1 := F.id_ge hlo h (Nat.zero_le i)
    have h2 := F.id_lt hlo h hk (rec_lt h) (Nat.le_refl _)
    rw [F.h0] at h1
    rw [heapAt_end] at h2
    exact hf _ h1 h2
  early := fun i x obj _ _ h => h.elim
  apart := fun i j x y obj obj' c d d' _ _ _ _ _ h => h.elim
  free := fun b h1 h2 => .inl (hf b (by rw [F.h0] at h1; exact h1) h2)
  mono := fun _ _ e => e
  same := fun _ _ => rfl
  size := Nat.le_refl _
  frame := fun _ _ _ => rfl
  aframe := fun _ _ _ => by rw [F.h0]
  fresh := fun c m _ => by rw [F.h0] at m; exact m
  live := fun c m _ => by rw [F.h0] at m; exact m
  out := ⟨rfl, rfl⟩

theorem Mem.congr {S S' : Nat → Prop} {p : Nat} {ρ : Inj} {w : World} (m : Mem recs st s ρ0 w0 S p ρ w)
    (hS : ∀ i x, recs[i]? = some x → (isEff x = true ∨ ∃ obj, x.k = .make obj) → (S i ↔ S' i)) : Mem recs st s ρ0 w0 S' p ρ w where
  hp := m.hp
  eff := fun i x h he => by rw [← hS i x h (.inl he)]; exact m.eff i x h he
  rel := m.rel
  late := fun i x obj h hk hn => m.late i x obj h hk (fun hs => hn ((hS i x h (.inr ⟨obj, hk⟩)).mp hs))
  early := fun i x obj h hk hs => m.early i x obj h hk ((hS i x h (.inr ⟨obj, hk⟩)).mpr hs)
  apart := fun i j x y obj obj' c d d' hne h h' hk hk' hs hs' => m.apart i j x y obj obj' c d d' hne h h' hk hk' ((hS i x h (.inr ⟨obj, hk⟩)).mpr hs) ((hS j y h' (.inr ⟨obj', hk'⟩)).mpr hs')
  free := fun b h1 h2 => by
    rcases m.free b h1 h2 with h | ⟨i, x, obj, h, hk, hs, hp, e⟩
    · exact .inl h
    · exact .inr ⟨i, x, obj, h, hk, (hS i x h (.inr ⟨obj, hk⟩)).mp hs, hp, e⟩
  mono := m.mono
  same := m.same
  size := m.size
  frame := m.frame
  aframe := m.aframe
  fresh := m.fresh
  live := m.live
  out := m.out

/-- One operation further, in the order of the text. -/
theorem Mem.up (F : Facts env lo ops recs st s) (hlo : LoOk env.P lo) {S : Nat → Prop} {p : Nat} {ρ : Inj} {w : World} {x : Rec} (m : Mem recs st s ρ0 w0 S p ρ w) (hx : recs[p]? = some x) (he : isEff x = false) :
    Mem recs st s ρ0 w0 S (p + 1) ρ w := by
  have hlt := rec_lt hx
  have heff : ∀ i y, recs[i]? = some y → isEff y = true → (S i ↔ i < p + 1) := fun i y h hy => by
    rw [m.eff i y h hy]
    constructor
    · omega
    · intro h1
      have : i ≠ p := fun e => by subst e; rw [hx] at h; cases h; rw [he] at hy; cases hy
      omega
  by_cases hk : ∃ obj, x.k = .make obj
  · obtain ⟨obj, hk⟩ := hk
    obtain ⟨_, hh, hl, _⟩ := F.make hx hk
    have eh : heapAt recs s.h p = x.h := heapAt_rec hx _
    have hsm : x.h.next < lim := by omega
    have hg : ∀ j, (x.h.push obj).get j = if j = x.h.next then some obj else x.h.get j := AHeap.get_push obj hsm
    have mrel := m.rel
    have mlate := m.late
    have mearly := m.early
    have mfree := m.free
    have maframe := m.aframe
    have mfresh := m.fresh
    have mlive := m.live
    rw [eh] at mrel mlate mearly mfree maframe mfresh mlive
    have hn0 : st.h.next ≤ x.h.next := by
      have := F.id_ge hlo hx (Nat.zero_le p)
      rwa [F.h0] at this
    have hnew : ρ x.h.next = none ∨ ∃ c, ρ x.h.next = some (c, (0, 0)) ∧ ORel ρ obj (0, 0) w.heap[c]? ∧ ¬ Live ρ x.h c ∧ w0.heap.size ≤ c ∧ S p := by
      by_cases hs : S p
      · obtain ⟨c, h1, h2, h3, h4⟩ := mearly p x obj hx hk hs (Nat.le_refl _)
        exact .inr ⟨c, h1, h2, h3, h4, hs⟩
      · exact .inl (mlate p x obj hx hk hs).1
    refine ⟨hlt, heff, ?_, ?_, ?_, fun i j y z o o' c d d' hne h h' g g' hs hs' hi hj => m.apart i j y z o o' c d d' hne h h' g g' hs hs' (by omega) (by omega), ?_, m.mono, m.same, m.size, m.frame, ?_, ?_, ?_, m.out⟩
    · rw [hh]
      exact mrel.come hl (hnew.imp id (fun ⟨c, h1, h2, h3, _⟩ => ⟨c, h1, h2, h3⟩))
    · intro i y o h g hs
      rw [hh]
      obtain ⟨h1, h2⟩ := mlate i y o h g hs
      refine ⟨h1, fun hi => ?_⟩
      rw [hg]
      by_cases e : i = p
      · subst e
        rw [hx] at h
        cases h
        rw [hk] at g
        cases g
        simp
      · have := F.id_lt hlo h g (show i < p by omega) m.hp
        rw [eh] at this
        rw [if_neg (by omega)]
        exact h2 (by omega)
    · intro i y o h g hs hi
      rw [hh]
      obtain ⟨c, h1, h2, h3, h4⟩ := mearly i y o h g hs (by omega)
      refine ⟨c, h1, h2, ?_, h4⟩
      rintro ⟨b, d, o1, g1, g2, g3⟩
      rw [hg] at g2
      by_cases e : b = x.h.next
      · subst e
        rcases hnew with hnew | ⟨c', hn1, _, _, _, hsp⟩
        · rw [hnew] at g1; cases g1
        · exact m.apart i p y x o obj c _ _ (by omega) h hx g hk hs hsp (by omega) (Nat.le_refl _) h1 g1
      · rw [if_neg e] at g2
        exact h3 ⟨b, d, o1, g1, g2, g3⟩
    · intro b h1 h2
      rw [hh] at h1
      have h1 : x.h.next + 1 ≤ b := h1
      rcases mfree b (by omega) h2 with h | ⟨i, y, o, h, g, hs, hp, e⟩
      · exact .inl h
      · refine .inr ⟨i, y, o, h, g, hs, ?_, e⟩
        rcases Nat.lt_or_ge p i with hpi | hpi
        · exact hpi
        · have : i = p := by omega
          subst this
          rw [hx] at h
          cases h
          omega
    · intro b hb hn
      rw [hh, hg, if_neg (by omega)]
      exact maframe b hb hn
    · rintro c ⟨b, d, o1, g1, g2, g3⟩ hc
      rw [hh, hg] at g2
      by_cases e : b = x.h.next
      · subst e
        rcases hnew with hnew | ⟨c', hn1, _, _, hn4, _⟩
        · rw [hnew] at g1; cases g1
        · rw [hn1] at g1
          cases g1
          omega
      · rw [if_neg e] at g2
        exact mfresh c ⟨b, d, o1, g1, g2, g3⟩ hc
    · rintro c ⟨b, d, o1, g1, g2, g3⟩ hc
      rw [hh, hg] at g2
      by_cases e : b = x.h.next
      · subst e
        rcases hnew with hnew | ⟨c', hn1, _, _, hn4, _⟩
        · rw [hnew] at g1; cases g1
        · rw [hn1] at g1
          cases g1
          omega
      · rw [if_neg e] at g2
        exact mlive c ⟨b, d, o1, g1, g2, g3⟩ hc
  · have hk : ∀ obj, x.k ≠ .make obj := fun obj e => hk ⟨obj, e⟩
    have eh : heapAt recs s.h (p + 1) = heapAt recs s.h p := by rw [F.quiet hx he hk, heapAt_rec hx]
    have hne : ∀ i y obj, recs[i]? = some y → y.k = .make obj → i ≠ p := fun i y obj h g e => by
      subst e
      rw [hx] at h
      cases h
      exact hk obj g
    refine ⟨hlt, heff, by rw [eh]; exact m.rel, ?_, ?_, fun i j y z o o' c d d' hne h h' g g' hs hs' hi hj => m.apart i j y z o o' c d d' hne h h' g g' hs hs' (by omega) (by omega), ?_, m.mono, m.same, m.size, m.frame,
      by rw [eh]; exact m.aframe, by rw [eh]; exact m.fresh, by rw [eh]; exact m.live, m.out⟩
    · intro i y o h g hs
      rw [eh]
      obtain ⟨h1, h2⟩ := m.late i y o h g hs
      have := hne i y o h g
      exact ⟨h1, fun hi => h2 (by omega)⟩
    · intro i y o h g hs hi
      rw [eh]
      exact m.early i y o h g hs (by omega)
    · intro b h1 h2
      rw [eh] at h1
      rcases m.free b h1 h2 with h | ⟨i, y, o, h, g, hs, hp, e⟩
      · exact .inl h
      · have := hne i y o h g
        exact .inr ⟨i, y, o, h, g, hs, by omega, e⟩

theorem Mem.ups (F : Facts env lo ops recs st s) (hlo : LoOk env.P lo) {S : Nat → Prop} {ρ : Inj} {w : World} : ∀ (n : Nat) {p : Nat}, Mem recs st s ρ0 w0 S p ρ w → p + n ≤ recs.length →
    (∀ i x, p ≤ i → i < p + n → recs[i]? = some x → isEff x = false) → Mem recs st s ρ0 w0 S (p + n) ρ w
  | 0, p, m, _, _ => m
  | n + 1, p, m, hl, h => by
    have hx : recs[p]? = some recs[p] := by simp
    have := Mem.ups F hlo n (m.up F hlo hx (h p _ (Nat.le_refl _) (by omega) hx)) (by omega) (fun i x h1 h2 h3 => h i x (by omega) (by omega) h3)
    rwa [show p + 1 + n = p + (n + 1) by omega] at this

/-- An operation that makes a block is done. -/
theorem Mem.make (F : Facts env lo ops recs st s) (hlo : LoOk env.P lo) {S : Nat → Prop} {p i : Nat} {ρ : Inj} {w w' : World} {x : Rec} {obj : AObj} {y : Obj} (m : Mem recs st s ρ0 w0 S p ρ w) (hx : recs[i]? = some x)
    (hk : x.k = .make obj) (hs : ¬ S i) (hw0 : HeapIs w w' (w.heap.push y)) (hr : ORel (ρ.add x.h.next w.heap.size (0, 0)) obj (0, 0) (some y)) :
    Mem recs st s ρ0 w0 (fun j => S j ∨ j = i) p (ρ.add x.h.next w.heap.size (0, 0)) w' := by
  have hw : w'.heap = w.heap.push y := HeapIs.heap hw0
  obtain ⟨hn, hl⟩ := m.late i x obj hx hk hs
  have hm := Inj.add_mono (c := w.heap.size) (d := (0, 0)) hn
  have hn0 : st.h.next ≤ x.h.next := by
    have := F.id_ge hlo hx (Nat.zero_le i)
    rwa [F.h0] at this
  have hnN : x.h.next < s.h.next := by
    have := F.id_lt hlo hx hk (rec_lt hx) (Nat.le_refl _)
    rwa [heapAt_end] at this
  have hplace : (heapAt recs s.h p).get x.h.next = some obj ∨ (heapAt recs s.h p).next ≤ x.h.next := by
    rcases Nat.lt_or_ge i p with h | h
    · exact .inl (hl h)
    · exact .inr (F.id_ge hlo hx h)
  have ids : ∀ (j : Nat) (z : Rec) (o : AObj), recs[j]? = some z → z.k = .make o → j ≠ i → z.h.next ≠ x.h.next := by
    intro j z o h g hne
    rcases Nat.lt_or_gt_of_ne hne with hji | hji
    · have := F.id_lt hlo h g hji (Nat.le_of_lt (rec_lt hx))
      rw [heapAt_rec hx] at this
      omega
    · have := F.id_lt hlo hx hk hji (Nat.le_of_lt (rec_lt h))
      rw [heapAt_rec h] at this
      omega
  have addne : ∀ b, b ≠ x.h.next → (ρ.add x.h.next w.heap.size (0, 0)) b = ρ b := fun b hb => by simp [Inj.add, hb]
  have addat : (ρ.add x.h.next w.heap.size (0, 0)) x.h.next = some (w.heap.size, (0, 0)) := by simp [Inj.add]
  have hL : ∀ c, Live (ρ.add x.h.next w.heap.size (0, 0)) (heapAt recs s.h p) c → Live ρ (heapAt recs s.h p) c ∨ c = w.heap.size := by
    rintro c ⟨b, d, o1, g1, g2, g3⟩
    by_cases e : b = x.h.next
    · subst e
      rw [addat] at g1
      cases g1
      exact .inr rfl
    · rw [addne b e] at g1
      exact .inl ⟨b, d, o1, g1, g2, g3⟩
  have hM : ∀ c, Mine (ρ.add x.h.next w.heap.size (0, 0)) (heapAt recs s.h p) c → Mine ρ (heapAt recs s.h p) c ∨ c = w.heap.size := by
    rintro c ⟨b, d, o1, g1, g2, g3⟩
    by_cases e : b = x.h.next
    · subst e
      rw [addat] at g1
      cases g1
      exact .inr rfl
    · rw [addne b e] at g1
      exact .inl ⟨b, d, o1, g1, g2, g3⟩
  have hold : ∀ c, c < w.heap.size → w'.heap[c]? = w.heap[c]? := fun c hc => by
    rw [hw, Array.getElem?_push_lt hc, Array.getElem?_eq_getElem hc]
  refine ⟨m.hp, ?_, m.rel.bind (0, 0) hn hplace hw hr, ?_, ?_, ?_, ?_, fun b z e => hm _ _ (m.mono b z e), ?_, ?_, ?_, m.aframe, ?_, ?_, ⟨(HeapIs.kept hw0).1.trans m.out.1, (HeapIs.kept hw0).2.trans m.out.2⟩⟩
  · intro j z h he
    rw [← m.eff j z h he]
    constructor
    · rintro (h1 | h1)
      · exact h1
      · subst h1
        rw [hx] at h
        cases h
        exact absurd hk (eff_not_make he obj)
    · exact .inl
  · intro j z o h g hj
    have hne : j ≠ i := fun e => hj (.inr e)
    obtain ⟨h1, h2⟩ := m.late j z o h g (fun hs => hj (.inl hs))
    exact ⟨by rw [addne _ (ids j z o h g hne)]; exact h1, h2⟩
  · intro j z o h g hj hp
    by_cases e : j = i
    · subst e
      rw [hx] at h
      cases h
      rw [hk] at g
      cases g
      refine ⟨w.heap.size, addat, ?_, ?_, m.size⟩
      · rw [hw]
        simpa using hr
      · intro hlv
        obtain ⟨b, d, o1, g1, g2, g3⟩ := hlv
        by_cases e : b = x.h.next
        · subst e
          have := F.id_ge hlo hx hp
          rw [AHeap.get_none this] at g2
          cases g2
        · rw [addne b e] at g1
          have := m.rel.dom _ _ _ g1
          omega
    · rcases hj with hj | hj
      · obtain ⟨c, h1, h2, h3, h4⟩ := m.early j z o h g hj hp
        have hc := m.rel.dom _ _ _ h1
        refine ⟨c, by rw [addne _ (ids j z o h g e)]; exact h1, by rw [hold c hc]; exact h2.mono hm, fun hlv => ?_, h4⟩
        rcases hL c hlv with h5 | h5
        · exact h3 h5
        · omega
      · exact absurd hj e
  · intro j k z z' o o' c d d' hne h h' g g' hs1 hs2 hp1 hp2 e1 e2
    by_cases ej : j = i
    · have ek : k ≠ i := fun e => hne (ej.trans e.symm)
      subst ej
      rw [hx] at h
      cases h
      rw [addat] at e1
      cases e1
      rw [addne _ (ids k z' o' h' g' ek)] at e2
      have := m.rel.dom _ _ _ e2
      omega
    · rw [addne _ (ids j z o h g ej)] at e1
      by_cases ek : k = i
      · subst ek
        rw [hx] at h'
        cases h'
        rw [addat] at e2
        cases e2
        have := m.rel.dom _ _ _ e1
        omega
      · rw [addne _ (ids k z' o' h' g' ek)] at e2
        exact m.apart j k z z' o o' c d d' hne h h' g g' (hs1.resolve_right ej) (hs2.resolve_right ek) hp1 hp2 e1 e2
  · intro b h1 h2
    by_cases e : b = x.h.next
    · refine .inr ⟨i, x, obj, hx, hk, .inr rfl, ?_, e⟩
      rcases Nat.lt_or_ge i p with h | h
      · have := F.id_lt hlo hx hk h m.hp
        omega
      · exact h
    · rw [addne b e]
      rcases m.free b h1 h2 with h | ⟨j, z, o, h, g, hs, hp, e⟩
      · exact .inl h
      · exact .inr ⟨j, z, o, h, g, .inl hs, hp, e⟩
  · intro b hb
    rw [addne b (by omega)]
    exact m.same b hb
  · rw [hw]
    have := m.size
    simp
    omega
  · intro c hc hmn
    rw [hold c (Nat.lt_of_lt_of_le hc m.size)]
    exact m.frame c hc hmn
  · intro c hmn hc
    rcases hM c hmn with h | h
    · exact m.fresh c h hc
    · have := m.size
      omega
  · intro c hlv hc
    rcases hL c hlv with h | h
    · exact m.live c h hc
    · have := m.size
      omega

/-- What the effect that comes next may take. -/
theorem Mem.room (F : Facts env lo ops recs st s) (hlo : LoOk env.P lo) {S : Nat → Prop} {i : Nat} {ρ : Inj} {w : World} {x : Rec} (m : Mem recs st s ρ0 w0 S i ρ w) (hx : recs[i]? = some x) (he : isEff x = true) :
    Free ρ x.h (heapAt recs s.h (i + 1)) := by
  intro b h1 h2
  have h3 : b < s.h.next := by
    have := F.next hlo (i := i + 1) (j := recs.length) (rec_lt hx) (Nat.le_refl _)
    rw [heapAt_end] at this
    omega
  rcases m.free b (by rw [heapAt_rec hx]; exact h1) h3 with h | ⟨j, z, o, h, g, hs, hp, e⟩
  · exact h
  · have hne : j ≠ i := fun e => by
      subst e
      rw [hx] at h
      cases h
      exact eff_not_make he o g
    have := F.id_ge hlo h (show i + 1 ≤ j by omega)
    omega

/-- An effect is done. -/
theorem Mem.effect (F : Facts env lo ops recs st s) (hlo : LoOk env.P lo) {S : Nat → Prop} {i : Nat} {ρ ρ' : Inj} {w w' : World} {x : Rec} (m : Mem recs st s ρ0 w0 S i ρ w) (hx : recs[i]? = some x) (he : isEff x = true)
    (r : Rel ρ' (heapAt recs s.h (i + 1)) w') (e : Ext ρ x.h w ρ' (heapAt recs s.h (i + 1)) w') : Mem recs st s ρ0 w0 (fun j => S j ∨ j = i) (i + 1) ρ' w' := by
  have hlt := rec_lt hx
  have eh : heapAt recs s.h i = x.h := heapAt_rec hx _
  have hn0 : st.h.next ≤ x.h.next := by
    have := F.id_ge hlo hx (Nat.zero_le i)
    rwa [F.h0] at this
  have hnN : (heapAt recs s.h (i + 1)).next ≤ s.h.next := by
    have := F.next hlo (i := i + 1) (j := recs.length) hlt (Nat.le_refl _)
    rwa [heapAt_end] at this
  have nomake : ∀ (j : Nat) (z : Rec) (o : AObj), recs[j]? = some z → z.k = .make o → j ≠ i := fun j z o h g e => by
    subst e
    rw [hx] at h
    cases h
    exact eff_not_make he o g
  have mrel := m.rel
  have mlate := m.late
  have mearly := m.early
  have mfree := m.free
  have maframe := m.aframe
  have mfresh := m.fresh
  have mlive := m.live
  rw [eh] at mrel mlate mearly mfree maframe mfresh mlive
  have idsame : ∀ (j : Nat) (z : Rec) (o : AObj), recs[j]? = some z → z.k = .make o → ρ' z.h.next = ρ z.h.next := by
    intro j z o h g
    rcases Nat.lt_or_gt_of_ne (nomake j z o h g) with hji | hji
    · have := F.id_lt hlo h g hji (Nat.le_of_lt hlt)
      rw [eh] at this
      exact e.same _ (.inl this)
    · exact e.same _ (.inr (F.id_ge hlo h hji))
  refine ⟨hlt, ?_, r, ?_, ?_, ?_, ?_, fun b z h => e.mono _ _ (m.mono b z h), ?_, Nat.le_trans m.size e.size, ?_, ?_, ?_, ?_, ⟨e.out.1.trans m.out.1, e.out.2.trans m.out.2⟩⟩
  · intro j z h hz
    rw [m.eff j z h hz]
    omega
  · intro j z o h g hj
    have hne := nomake j z o h g
    obtain ⟨h1, h2⟩ := mlate j z o h g (fun hs => hj (.inl hs))
    refine ⟨by rw [idsame j z o h g]; exact h1, fun hji => ?_⟩
    have hlt2 := F.id_lt hlo h g (show j < i by omega) (Nat.le_of_lt hlt)
    rw [eh] at hlt2
    rw [e.aframe _ hlt2 h1]
    exact h2 (by omega)
  · intro j z o h g hj hp
    have hne := nomake j z o h g
    obtain ⟨c, h1, h2, h3, h4⟩ := mearly j z o h g (hj.resolve_right hne) (by omega)
    have hc := mrel.dom _ _ _ h1
    have hnm : ¬ Mine ρ x.h c := fun ⟨b, d, o1, g1, g2, g3⟩ => h3 ⟨b, d, o1, g1, g2, by cases o1 <;> simp_all [AObj.excl, AObj.live]⟩
    exact ⟨c, by rw [idsame j z o h g]; exact h1, by rw [e.frame c hc hnm]; exact h2.mono e.mono, fun hl => h3 (e.live c hl hc), h4⟩
  · intro j k z z' o o' c d d' hne h h' g g' hs1 hs2 hp1 hp2 e1 e2
    rw [idsame j z o h g] at e1
    rw [idsame k z' o' h' g'] at e2
    exact m.apart j k z z' o o' c d d' hne h h' g g' (hs1.resolve_right (nomake _ _ _ h g)) (hs2.resolve_right (nomake _ _ _ h' g')) (by omega) (by omega) e1 e2
  · intro b h1 h2
    rw [e.same b (.inr h1)]
    rcases mfree b (Nat.le_trans e.next h1) h2 with h | ⟨j, z, o, h, g, hs, hp, eb⟩
    · exact .inl h
    · have := nomake j z o h g
      exact .inr ⟨j, z, o, h, g, .inl hs, by omega, eb⟩
  · intro b hb
    rw [← m.same b hb]
    rcases hb with hb | hb
    · exact e.same b (.inl (by omega))
    · exact e.same b (.inr (by omega))
  · intro c hc hmn
    rw [e.frame c (Nat.lt_of_lt_of_le hc m.size) (fun h => hmn (mfresh c h hc))]
    exact m.frame c hc hmn
  · intro b hb hn
    have hn' : ρ b = none := by rw [m.same b (.inl hb)]; exact hn
    rw [e.aframe b (by omega) hn']
    exact maframe b hb hn
  · intro c hmn hc
    exact mfresh c (e.fresh c hmn (Nat.lt_of_lt_of_le hc m.size)) hc
  · intro c hlv hc
    exact mlive c (e.live c hlv (Nat.lt_of_lt_of_le hc m.size)) hc

/-- All is done. -/
theorem Mem.done {S : Nat → Prop} {ρ : Inj} {w : World} (F : Facts env lo ops recs st s) (hlo : LoOk env.P lo) (m : Mem recs st s ρ0 w0 S recs.length ρ w) : Rel ρ s.h w ∧ Ext ρ0 st.h w0 ρ s.h w := by
  have e := heapAt_end (recs := recs) s.h
  have mrel := m.rel
  have maframe := m.aframe
  have mfresh := m.fresh
  have mlive := m.live
  rw [e] at mrel maframe mfresh mlive
  have hn : st.h.next ≤ s.h.next := by
    have := F.next hlo (i := 0) (j := recs.length) (Nat.zero_le _) (Nat.le_refl _)
    rwa [F.h0, e] at this
  exact ⟨mrel, m.mono, m.same, hn, m.size, m.frame, maframe, mfresh, mlive, m.out⟩

end mem

end Go.Tw
