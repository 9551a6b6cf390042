/- A second machine for Go's model: orders, traces. Conditions: none. -/
import Derived.Test.YtdbnepjmepelcaaTwZ
import Derived.Orders
namespace Go.Tw

/-! Which operations come ahead of each. -/
def bef1 (acc : List Nat) (o : Oper) : Nat :=
  o.after.toList.foldl (fun s e => cond (Region.binds .any e) (s ||| 2 ^ e.on ||| acc.getD e.on 0) s) 0

theorem bef1_bit {acc : List Nat} {x : Nat} : ∀ (es : List Edge) (s : Nat),
    (es.foldl (fun s e => cond (Region.binds .any e) (s ||| 2 ^ e.on ||| acc.getD e.on 0) s) s).testBit x = true →
    s.testBit x = true ∨ ∃ e ∈ es, Region.binds .any e = true ∧ (e.on = x ∨ (acc.getD e.on 0).testBit x = true)
  | [], s, h => .inl h
  | e :: es, s, h => by
    rcases bef1_bit es _ h with h1 | ⟨e', he', h1⟩
    · have h1 : (cond (Region.binds .any e) (s ||| 2 ^ e.on ||| acc.getD e.on 0) s).testBit x = true := h1
      cases hb : Region.binds .any e with
      | false => rw [hb] at h1; exact .inl h1
      | true =>
        rw [hb] at h1
        simp only [cond_true, Nat.testBit_or, Bool.or_eq_true, Nat.testBit_two_pow, decide_eq_true_eq] at h1
        rcases h1 with (h1 | h1) | h1
        · exact .inl h1
        · exact .inr ⟨e, List.mem_cons_self .., hb, .inl h1⟩
        · exact .inr ⟨e, List.mem_cons_self .., hb, .inr h1⟩
    · exact .inr ⟨e', List.mem_cons_of_mem _ he', h1⟩

theorem befs_fold : ∀ (l : List Oper) (acc : List Nat), ∃ r, l.foldl (fun acc o => acc ++ [bef1 acc o]) acc = acc ++ r ∧ r.length = l.length ∧
    ∀ i o, l[i]? = some o → r[i]? = some (bef1 (acc ++ r.take i) o)
  | [], acc => ⟨[], by simp, rfl, fun i o h => by simp at h⟩
  | o :: l, acc => by
    obtain ⟨r, h1, h2, h3⟩ := befs_fold l (acc ++ [bef1 acc o])
    refine ⟨bef1 acc o :: r, by rw [List.foldl_cons, h1]; simp, by simp [h2], fun i o' h => ?_⟩
    cases i with
    | zero => simp at h; subst h; simp
    | succ i =>
      simp at h
      have := h3 i o' h
      simpa using this

theorem befs_get {l : List Oper} {i : Nat} {o : Oper} (h : l[i]? = some o) : (befs l).getD i 0 = bef1 ((befs l).take i) o := by
  obtain ⟨r, h1, h2, h3⟩ := befs_fold l []
  have e : befs l = r := (show befs l = [] ++ r from h1).trans (by simp)
  have := h3 i o h
  rw [e, List.getD_eq_getElem?_getD, this]
  simp

/-- A set that holds with each operation all that comes ahead of it. -/
def Closed (ops : Array Oper) (S : Nat → Prop) : Prop := ∀ y o, ops[y]? = some o → S y → ∀ e ∈ o.after, Region.binds .any e = true → S e.on

theorem bit_done {ops : Array Oper} {S : Nat → Prop} (hc : Closed ops S) : ∀ (y : Nat) {o : Oper} {x : Nat}, ops[y]? = some o → (∀ e ∈ o.after, Region.binds .any e = true → S e.on) →
    bitOf (befs ops.toList) y x = true → S x := by
  intro y
  induction y using Nat.strongRecOn with
  | ind y ih =>
    intro o x ho hp hb
    unfold bitOf at hb
    rw [befs_get (o := o) (by simpa using ho)] at hb
    rcases bef1_bit _ _ hb with h | ⟨e, he, h1, h2⟩
    · simp at h
    · have he : e ∈ o.after := by simpa using he
      have hs := hp e he h1
      rcases h2 with h2 | h2
      · exact h2 ▸ hs
      · have hlt : e.on < y := by
          rcases Nat.lt_or_ge e.on y with h | h
          · exact h
          · have : ((befs ops.toList).take y).getD e.on 0 = 0 := by
              rw [List.getD_eq_getElem?_getD, List.getElem?_eq_none (by simp; omega)]
              rfl
            rw [this] at h2
            simp at h2
        have h3 : ((befs ops.toList).take y).getD e.on 0 = (befs ops.toList).getD e.on 0 := by
          simp [List.getD_eq_getElem?_getD, hlt]
        rw [h3] at h2
        have hl : y < ops.size := by
          rcases Nat.lt_or_ge y ops.size with h | h
          · exact h
          · simp [Array.getElem?_eq_none h] at ho
        have ho2 : ops[e.on]? = some ops[e.on] := by simp
        exact ih e.on hlt ho2 (fun e' he' hb' => hc e.on _ ho2 hs e' he' hb') h2

theorem edgesOk_spec : ∀ (l : List Oper) (i0 : Nat), edgesOk l i0 = true → ∀ i o, l[i]? = some o → ∀ e ∈ o.after, Region.binds .any e = true → e.on < i0 + i
  | [], i0, h, i, o, ho, e, he, hb => by simp at ho
  | x :: l, i0, h, i, o, ho, e, he, hb => by
    simp only [edgesOk, Bool.and_eq_true] at h
    cases i with
    | zero =>
      simp at ho
      subst ho
      have := List.all_eq_true.mp h.1 e (by simpa using he)
      rw [hb] at this
      simp [Nat.blt] at this
      omega
    | succ i =>
      have := edgesOk_spec l (i0 + 1) h.2 i o (by simpa using ho) e he hb
      omega

theorem namesOk_spec {ops : Array Oper} {bs : List Nat} (h : namesOk ops bs = true) {i j : Nat} {x y : Oper} {t : Tmp} (hx : ops[i]? = some x) (hy : ops[j]? = some y) (hne : i ≠ j) (ht : x.dst = some t) :
    y.dst ≠ some t ∧ (t ∈ namesOf ops y → (i < j → bitOf bs j i = true) ∧ (j < i → bitOf bs i j = true)) := by
  have hi : i < ops.size := (Array.getElem?_eq_some_iff.1 hx).1
  have hj : j < ops.size := (Array.getElem?_eq_some_iff.1 hy).1
  unfold namesOk at h
  have h1 := List.all_eq_true.mp h i (List.mem_range.mpr hi)
  rw [hx] at h1
  simp only [ht] at h1
  have h2 := List.all_eq_true.mp h1 j (List.mem_range.mpr hj)
  rw [hy] at h2
  have hb : Nat.beq i j = false := by
    cases e : Nat.beq i j
    · rfl
    · exact absurd (Nat.eq_of_beq_eq_true e) hne
  simp only [hb, Bool.false_or, Bool.and_eq_true] at h2
  refine ⟨fun e => by simp [e] at h2, fun hm => ?_⟩
  have h3 : ((namesOf ops y).any (Nat.beq t)) = true := List.any_eq_true.mpr ⟨t, hm, by simp⟩
  rw [h3] at h2
  simp only [Bool.not_true, Bool.false_or] at h2
  refine ⟨fun hl => ?_, fun hl => ?_⟩
  · have : Nat.blt i j = true := by simp [Nat.blt]; omega
    rw [this] at h2
    exact h2.2
  · have : Nat.blt i j = false := by
      cases e : Nat.blt i j
      · rfl
      · simp [Nat.blt] at e; omega
    rw [this] at h2
    exact h2.2

/-! Effects. -/
theorem effIdx_mem : ∀ (r : List Rec) (i0 k : Nat), k ∈ effIdx r i0 ↔ ∃ m x, r[m]? = some x ∧ isEff x = true ∧ k = i0 + m
  | [], i0, k => by simp [effIdx]
  | y :: r, i0, k => by
    have ih := effIdx_mem r (i0 + 1) k
    have key : k ∈ effIdx (y :: r) i0 ↔ (isEff y = true ∧ k = i0) ∨ k ∈ effIdx r (i0 + 1) := by
      rw [effIdx]
      cases h : isEff y <;> simp
    rw [key, ih]
    constructor
    · rintro (⟨h1, h2⟩ | ⟨m, x, h1, h2, h3⟩)
      · exact ⟨0, y, rfl, h1, h2⟩
      · exact ⟨m + 1, x, by simpa using h1, h2, by omega⟩
    · rintro ⟨m, x, h1, h2, h3⟩
      cases m with
      | zero => simp at h1; subst h1; exact .inl ⟨h2, h3⟩
      | succ m => exact .inr ⟨m, x, by simpa using h1, h2, by omega⟩

theorem chain_spec {bs : List Nat} : ∀ (r : List Rec) (i0 : Nat), chain bs (effIdx r i0) = true → ∀ m m' x x', m < m' → r[m]? = some x → r[m']? = some x' → isEff x = true → isEff x' = true →
    bitOf bs (i0 + m') (i0 + m) = true
  | [], i0, h, m, m', x, x', hl, h1, h2, e1, e2 => by simp at h1
  | y :: r, i0, h, m, m', x, x', hl, h1, h2, e1, e2 => by
    cases m' with
    | zero => omega
    | succ m' =>
    simp only [List.getElem?_cons_succ] at h2
    cases m with
    | zero =>
      simp at h1
      subst h1
      unfold effIdx at h
      rw [e1] at h
      simp only [cond_true, chain, Bool.and_eq_true] at h
      have := List.all_eq_true.mp h.1 (i0 + 1 + m') ((effIdx_mem r (i0 + 1) _).mpr ⟨m', x', h2, e2, rfl⟩)
      rw [show i0 + (m' + 1) = i0 + 1 + m' by omega]
      exact this
    | succ m =>
      simp only [List.getElem?_cons_succ] at h1
      have ht : chain bs (effIdx r (i0 + 1)) = true := by
        unfold effIdx at h
        cases hy : isEff y <;> rw [hy] at h
        · exact h
        · simp only [cond_true, chain, Bool.and_eq_true] at h
          exact h.2
      have := chain_spec r (i0 + 1) ht m m' x x' (by omega) h1 h2 e1 e2
      rw [show i0 + (m' + 1) = i0 + 1 + m' by omega, show i0 + (m + 1) = i0 + 1 + m by omega]
      exact this

theorem looksOk_spec {P : Program} {ops : Array Oper} {bs : List Nat} {recs : List Rec} {h : AHeap} {es : List Nat} : ∀ (r : List Rec) (i0 : Nat), looksOk P ops bs recs h es r i0 = true →
    ∀ m x, r[m]? = some x → x.k = .look → x.want = true → ∀ q, (q ∈ es ∨ q = ops.size) →
      (∃ e ∈ es, e < q ∧ bitOf bs e (i0 + m) = true) ∨ (∃ e ∈ es, q ≤ e ∧ bitOf bs (i0 + m) e = true) ∨
      ∃ u, aLook P (evOf x.T (namesOf ops x.o)) (heapAt recs h q) x.o.op = some u ∧ vSame 300 u x.v = true
  | [], i0, hl, m, x, hx, hk, hw, q, hq => by simp at hx
  | y :: r, i0, hl, m, x, hx, hk, hw, q, hq => by
    unfold looksOk at hl
    rw [Bool.and_eq_true] at hl
    cases m with
    | zero =>
      simp at hx
      subst hx
      have h1 := hl.1
      rw [hk, hw] at h1
      have h2 := List.all_eq_true.mp h1 q (by rcases hq with hq | hq <;> simp [hq])
      rw [Bool.or_eq_true, Bool.or_eq_true] at h2
      rcases h2 with (h2 | h2) | h2
      · obtain ⟨e, he, h3⟩ := List.any_eq_true.mp h2
        simp [Nat.blt] at h3
        exact .inl ⟨e, he, by omega, h3.2⟩
      · obtain ⟨e, he, h3⟩ := List.any_eq_true.mp h2
        simp at h3
        exact .inr (.inl ⟨e, he, h3.1, h3.2⟩)
      · split at h2
        · rename_i u hu
          exact .inr (.inr ⟨u, hu, h2⟩)
        · cases h2
    | succ m =>
      have := looksOk_spec r (i0 + 1) hl.2 m x (by simpa using hx) hk hw q hq
      rw [show i0 + (m + 1) = i0 + 1 + m by omega]
      exact this

end Go.Tw
