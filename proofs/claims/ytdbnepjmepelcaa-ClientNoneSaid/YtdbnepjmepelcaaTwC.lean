/- A second machine for Go's model: reading and writing rows of cells. Conditions: none. -/
import Derived.Test.YtdbnepjmepelcaaTwB
import Derived.Laws.Sem
namespace Go.Tw

/-- The first n of a list, if there are so many. -/
def cut : Nat → List Value → Option (List Value)
  | 0, _ => some []
  | _ + 1, [] => none
  | n + 1, v :: r => match cut n r with
    | some l => some (v :: l)
    | none => none

def skip : Nat → List Value → List Value
  | 0, l => l
  | _ + 1, [] => []
  | n + 1, _ :: r => skip n r

theorem skip_get : ∀ (n : Nat) (l : List Value) (i : Nat), (skip n l)[i]? = l[n + i]?
  | 0, l, i => by simp [skip]
  | n + 1, [], i => by simp [skip]
  | n + 1, v :: r, i => by
    simp only [skip, skip_get n r i]
    rw [show n + 1 + i = (n + i) + 1 from by omega]
    simp

theorem cut_some : ∀ {n : Nat} {l x : List Value}, cut n l = some x → x.length = n ∧ ∀ i, i < n → x[i]? = l[i]?
  | 0, l, x, h => by simp [cut] at h; subst h; simp
  | n + 1, [], x, h => by simp [cut] at h
  | n + 1, v :: r, x, h => by
    simp only [cut] at h
    split at h
    · rename_i y hy
      simp at h; subst h
      obtain ⟨h1, h2⟩ := cut_some hy
      refine ⟨by simp [h1], fun i hi => ?_⟩
      cases i with
      | zero => simp
      | succ i => simpa using h2 i (by omega)
    · cases h

/-- Write a list into a list, from a place on; none: it does not fit. -/
def lay : Nat → List Value → List Value → Option (List Value)
  | _, [], l => some l
  | 0, _ :: _, [] => none
  | 0, v :: vs, _ :: r => match lay 0 vs r with
    | some l => some (v :: l)
    | none => none
  | _ + 1, _ :: _, [] => none
  | k + 1, v :: vs, x :: r => match lay k (v :: vs) r with
    | some l => some (x :: l)
    | none => none

theorem lay_some : ∀ {k : Nat} {vs l x : List Value}, lay k vs l = some x →
    x.length = l.length ∧ (k + vs.length ≤ l.length ∨ vs = []) ∧ ∀ i, x[i]? = if k ≤ i ∧ i < k + vs.length then vs[i - k]? else l[i]?
  | k, [], l, x, h => by simp [lay] at h; subst h; simp; intro i h1 h2; omega
  | 0, v :: vs, [], x, h => by simp [lay] at h
  | 0, v :: vs, y :: r, x, h => by
    simp only [lay] at h
    split at h
    · rename_i z hz
      simp at h; subst h
      obtain ⟨h1, h2, h3⟩ := lay_some hz
      refine ⟨by simp [h1], .inl ?_, fun i => ?_⟩
      · rcases h2 with h2 | h2
        · simp at h2 ⊢; omega
        · subst h2; simp
      · cases i with
        | zero => simp
        | succ i =>
          have := h3 i
          simp at this ⊢
          exact this
    · cases h
  | k + 1, v :: vs, [], x, h => by simp [lay] at h
  | k + 1, v :: vs, y :: r, x, h => by
    simp only [lay] at h
    split at h
    · rename_i z hz
      simp at h; subst h
      obtain ⟨h1, h2, h3⟩ := lay_some hz
      refine ⟨by simp [h1], .inl ?_, fun i => ?_⟩
      · rcases h2 with h2 | h2
        · simp at h2 ⊢; omega
        · simp at h2
      · cases i with
        | zero => simp
        | succ i =>
          have := h3 i
          simp only [List.getElem?_cons_succ, this]
          simp only [List.length_cons]
          rw [show i + 1 - (k + 1) = i - k from by omega]
          by_cases hh : k ≤ i ∧ i < k + (vs.length + 1)
          · rw [if_pos hh, if_pos (by omega)]
          · rw [if_neg hh, if_neg (by omega)]
    · cases h

/-- Is it the value of one cell? -/
def oneC : Value → Bool
  | .agg _ => false
  | .tuple _ => false
  | _ => true

def allOne : List Value → Bool
  | [] => true
  | v :: r => oneC v && allOne r

theorem oneC_rel {ρ : Inj} {v v' : Value} (h : VRel ρ v v') (ho : oneC v = true) : v'.oneCell' = true := by
  cases h <;> simp_all [oneC, Value.oneCell']

theorem allOne_get : ∀ {l : List Value}, allOne l = true → ∀ (i : Nat) (v : Value), l[i]? = some v → oneC v = true
  | [], _, i, v, h => by simp at h
  | x :: r, h, i, v, hi => by
    simp [allOne] at h
    cases i with
    | zero => simp at hi; subst hi; exact h.1
    | succ i => exact allOne_get h.2 i v (by simpa using hi)

/-- n cells from an address on. -/
def aload (h : AHeap) (a : Addr) (n : Nat) : Option (List Value) :=
  match a.spot, h.get a.block with
  | none, some (.cells _ _ c _) => cut n (skip a.off c)
  | _, _ => none

/-- Write cells from an address on. -/
def astore (h : AHeap) (a : Addr) (vs : List Value) : Option AHeap :=
  match vs with
  | [] => some h
  | _ :: _ => match a.spot, h.get a.block with
    | none, some (.cells .rw ex c e) => cond (allOne vs) (match lay a.off vs c with
      | some c' => some (h.put a.block (.cells .rw ex c' e))
      | none => none) none
    | _, _ => none

def putRow (arr : Array Value) (k : Nat) : List Value → Array Value
  | [] => arr
  | v :: vs => putRow (arr.setIfInBounds k v) (k + 1) vs

theorem putRow_size (vs : List Value) : ∀ (arr : Array Value) (k : Nat), (putRow arr k vs).size = arr.size := by
  induction vs with
  | nil => intro arr k; rfl
  | cons v vs ih => intro arr k; simp [putRow, ih]

theorem putRow_get (vs : List Value) : ∀ (arr : Array Value) (k : Nat), k + vs.length ≤ arr.size → ∀ i,
    (putRow arr k vs)[i]? = if k ≤ i ∧ i < k + vs.length then vs[i - k]? else arr[i]? := by
  induction vs with
  | nil => intro arr k _ i; simp [putRow]; intro h1 h2; omega
  | cons v vs ih =>
    intro arr k hk i
    simp at hk
    simp only [putRow]
    rw [ih _ _ (by simp; omega)]
    by_cases e : i = k
    · subst e
      rw [if_neg (by omega), if_pos (by simp)]
      simp [Array.getElem?_setIfInBounds]
      omega
    · by_cases h1 : k + 1 ≤ i ∧ i < k + 1 + vs.length
      · rw [if_pos h1, if_pos (by simp; omega)]
        rw [show i - k = (i - (k + 1)) + 1 from by omega]
        simp
      · rw [if_neg h1, if_neg (by simp; omega)]
        rw [Array.getElem?_setIfInBounds_ne (fun e' => e e'.symm)]

theorem Addr.add_none (c o i : Nat) : (⟨c, o, none⟩ : Addr).add i = ⟨c, o + i, none⟩ := by
  unfold Addr.add
  by_cases h : i = 0
  · simp [h]
  · simp [h]

theorem cell_at {w : World} {c o : Nat} {arr : Array Value} {e : TypeId} {fr : Nat × Nat} (h : w.heap[c]? = some (.cells arr e fr)) :
    w.cell? ⟨c, o, none⟩ = arr[o]? := by simp [World.cell?, h]

theorem frozen_at {w : World} {c o : Nat} {arr : Array Value} {e : TypeId} {lo hi : Nat} (h : w.heap[c]? = some (.cells arr e (lo, hi))) :
    w.frozen? ⟨c, o, none⟩ = decide (lo ≤ o ∧ o < hi) := by simp [World.frozen?, h, Bool.decide_and]

theorem loadCellsFrom_run (P : Program) {w : World} {c o : Nat} {arr : Array Value} {e : TypeId} {fr : Nat × Nat} (h : w.heap[c]? = some (.cells arr e fr)) :
    ∀ (n i : Nat) (acc : Array Value), o + i + n ≤ arr.size →
      (loadCellsFrom ⟨c, o, none⟩ i n acc).run P w = .ok (acc ++ arr.extract (o + i) (o + i + n)) w := by
  intro n
  induction n with
  | zero =>
    intro i acc hi
    have : arr.extract (o + i) (o + i) = #[] := by simp; omega
    simp [loadCellsFrom, this]
  | succ n ih =>
    intro i acc hi
    have hlt : o + i < arr.size := by omega
    simp only [loadCellsFrom, Sem.run_bind, run_load, Addr.add_none, cell_at h, Array.getElem?_eq_getElem hlt, Result.andThen_ok]
    rw [ih (i + 1) _ (by omega)]
    congr 1
    apply Array.ext'
    simp only [Array.toList_append, Array.toList_push, Array.toList_extract, List.append_assoc]
    congr 1
    rw [show o + (i + 1) = o + i + 1 from by omega, show o + i + 1 + n = o + i + (n + 1) from by omega]
    simp only [List.extract_eq_take_drop]
    rw [show o + i + (n + 1) - (o + i) = n + 1 from by omega, show o + i + (n + 1) - (o + i + 1) = n from by omega]
    have hl : o + i < arr.toList.length := by simpa using hlt
    rw [List.drop_eq_getElem_cons hl, List.take_succ_cons]
    simp

theorem loadCells_run (P : Program) {w : World} {c o n : Nat} {arr : Array Value} {e : TypeId} {fr : Nat × Nat} (h : w.heap[c]? = some (.cells arr e fr))
    (hn : o + n ≤ arr.size) : (loadCells ⟨c, o, none⟩ n).run P w = .ok (arr.extract o (o + n)) w := by
  unfold loadCells
  rw [loadCellsFrom_run P h n 0 #[] (by omega)]
  simp

theorem setCell_heap {w : World} {c k : Nat} {arr : Array Value} {e : TypeId} {fr : Nat × Nat} (v : Value) (h : w.heap[c]? = some (.cells arr e fr)) :
    (w.setCell ⟨c, k, none⟩ v).heap = w.heap.setIfInBounds c (.cells (arr.setIfInBounds k v) e fr) := by
  apply Array.ext_getElem?
  intro j
  simp only [World.setCell, Array.getElem?_modify, Array.getElem?_setIfInBounds]
  by_cases e' : c = j
  · subst e'
    have hc : c < w.heap.size := by
      rcases Nat.lt_or_ge c w.heap.size with hh | hh
      · exact hh
      · simp [Array.getElem?_eq_none hh] at h
    rw [Array.getElem?_eq_getElem hc, Option.some.injEq] at h
    simp [h, hc]
  · simp [e']

theorem set_same {w : World} {c : Nat} {x : Obj} (h : w.heap[c]? = some x) : w.heap = w.heap.setIfInBounds c x := by
  apply Array.ext_getElem?
  intro j
  rw [Array.getElem?_setIfInBounds]
  by_cases e' : c = j
  · subst e'
    have hc : c < w.heap.size := by
      rcases Nat.lt_or_ge c w.heap.size with hh | hh
      · exact hh
      · simp [Array.getElem?_eq_none hh] at h
    rw [Array.getElem?_eq_getElem hc, Option.some.injEq] at h
    simp [h, hc]
  · simp [e']

theorem set_set (H : Array Obj) (c : Nat) (x y : Obj) : (H.setIfInBounds c x).setIfInBounds c y = H.setIfInBounds c y := by
  apply Array.ext_getElem?
  intro j
  simp only [Array.getElem?_setIfInBounds, Array.size_setIfInBounds]
  by_cases e' : c = j <;> simp [e']

theorem storeCells_run (P : Program) {c o : Nat} {e : TypeId} {lo hi : Nat} : ∀ (vs : List Value) (i : Nat) (w : World) (arr : Array Value),
    w.heap[c]? = some (.cells arr e (lo, hi)) → o + i + vs.length ≤ arr.size → (∀ v, v ∈ vs → v.oneCell' = true) →
    (∀ j, o + i ≤ j → j < o + i + vs.length → ¬ (lo ≤ j ∧ j < hi)) →
    ∃ w', (storeCells ⟨c, o, none⟩ vs i).run P w = .ok () w' ∧ HeapIs w w' (w.heap.setIfInBounds c (.cells (putRow arr (o + i) vs) e (lo, hi))) := by
  intro vs
  induction vs with
  | nil =>
    intro i w arr h _ _ _
    exact ⟨w, by simp [storeCells], .of (by simpa [putRow] using set_same h) ⟨rfl, rfl⟩⟩
  | cons v vs ih =>
    intro i w arr h hl hv hfz
    simp at hl
    have hlt : o + i < arr.size := by omega
    have hfr : w.frozen? ⟨c, o + i, none⟩ = false := by
      rw [frozen_at h]
      have := hfz (o + i) (Nat.le_refl _) (by simp)
      simpa using this
    have hcw : c < w.heap.size := by
      rcases Nat.lt_or_ge c w.heap.size with hh | hh
      · exact hh
      · simp [Array.getElem?_eq_none hh] at h
    have hset := setCell_heap (k := o + i) v h
    have h' : (w.setCell ⟨c, o + i, none⟩ v).heap[c]? = some (.cells (arr.setIfInBounds (o + i) v) e (lo, hi)) := by
      rw [hset]; simp [hcw]
    obtain ⟨w', hr, hw'⟩ := ih (i + 1) _ _ h' (by simp; omega) (fun x hx => hv x (by simp [hx])) (fun j h1 h2 => hfz j (by omega) (by simp; omega))
    refine ⟨w', ?_, ?_⟩
    · simp only [storeCells, Sem.run_bind, Addr.add_none]
      rw [run_store P w _ v _ (hv v (by simp)), cell_at h, Array.getElem?_eq_getElem hlt, hfr]
      simp only [Bool.false_eq_true, if_false, Result.andThen_ok]
      exact hr
    · refine .of ?_ hw'.kept
      rw [hw'.heap, hset, set_set]
      simp only [putRow]
      rw [show o + (i + 1) = o + i + 1 from by omega]

theorem ORel.cellsOf {ρ : Inj} {m : Md} {ex : Ex} {cs : List Value} {elem : TypeId} {d : Ofs} {x : Option Obj} (r : ORel ρ (.cells m ex cs elem) d x) :
    ∃ c' lo hi, x = some (.cells c' elem (lo, hi)) ∧ (∀ i v, cs[i]? = some v → ∃ v', c'[d.1 + i]? = some v' ∧ VRel ρ v v') ∧
      (m = .rw → ∀ i, i < cs.length → ¬ (lo ≤ d.1 + i ∧ d.1 + i < hi)) ∧ (ex = .exact → d.1 = 0 ∧ c'.size = cs.length) ∧ (cs ≠ [] → d.1 + cs.length ≤ c'.size) ∧
      (ex = .app → d.2 ≤ c'.size ∧ (lo = hi ∨ hi ≤ d.1 + cs.length)) := by
  cases r with
  | cells _ _ _ _ _ c' lo hi hc hf hx ha =>
    refine ⟨c', lo, hi, rfl, hc, hf, hx, fun hne => ?_, ha⟩
    have hpos : 0 < cs.length := by cases cs <;> simp_all
    obtain ⟨v', h1, _⟩ := hc (cs.length - 1) cs[cs.length - 1] (by simp)
    rcases Nat.lt_or_ge (d.1 + (cs.length - 1)) c'.size with hh | hh
    · omega
    · simp [Array.getElem?_eq_none hh] at h1

/-- Reading a row. -/
theorem aload_all (P : Program) {ρ : Inj} {h : AHeap} {w : World} (r : Rel ρ h w) {a a' : Addr} {n : Nat} {l : List Value} (hl : aload h a n = some l)
    (ha : VRel ρ (.pointer (some a)) (.pointer (some a'))) : ∃ arr, (∀ w1, w1.heap = w.heap → (loadCells a' n).run P w1 = .ok arr w1) ∧ ARel ρ l.toArray arr ∧ arr.size = n := by
  unfold aload at hl
  split at hl
  · rename_i m ex c e hs hg
    cases ha with
    | ptr b o c2 d hb =>
    simp only at hl hg
    obtain ⟨h1, h2⟩ := cut_some hl
    obtain ⟨c', lo, hi, hw, hc, _, _, hsz, _⟩ := (r.obj _ _ _ _ hb hg).cellsOf
    have key : ∀ i, i < n → ∃ v v', l[i]? = some v ∧ c'[d.1 + o + i]? = some v' ∧ VRel ρ v v' := by
      intro i hi'
      have hx := h2 i hi'
      rw [skip_get] at hx
      have : i < l.length := by omega
      rw [List.getElem?_eq_getElem this] at hx
      obtain ⟨v', p, q⟩ := hc (o + i) _ hx.symm
      exact ⟨_, v', List.getElem?_eq_getElem this, by rw [Nat.add_assoc]; exact p, q⟩
    have hle : d.1 + o + n ≤ c'.size ∨ n = 0 := by
      rcases Nat.eq_zero_or_pos n with hz | hz
      · exact .inr hz
      · obtain ⟨_, v', _, p, _⟩ := key (n - 1) (by omega)
        rcases Nat.lt_or_ge (d.1 + o + (n - 1)) c'.size with hh | hh
        · left; omega
        · simp [Array.getElem?_eq_none hh] at p
    rcases hle with hle | rfl
    · refine ⟨_, fun w1 e1 => loadCells_run P (by rw [e1]; exact hw) hle, ⟨?_, ?_⟩, by simp; omega⟩
      · simp [h1]; omega
      · intro i u u' hu hu'
        have hin : i < n := by
          rcases Nat.lt_or_ge i n with hh | hh
          · exact hh
          · have : l.toArray.size ≤ i := by simp; omega
            simp [Array.getElem?_eq_none this] at hu
        obtain ⟨v, v', p, q, rv⟩ := key i hin
        simp at hu
        rw [p] at hu
        simp at hu
        subst hu
        rw [Array.getElem?_extract] at hu'
        split at hu'
        · rw [q] at hu'; simp at hu'; subst hu'; exact rv
        · cases hu'
    · have : l = [] := by cases l <;> simp_all
      subst this
      exact ⟨#[], fun w1 _ => by simp [loadCells, loadCellsFrom], ARel.nil ρ, rfl⟩
  · cases hl

theorem aload_sound (P : Program) {ρ : Inj} {h : AHeap} {w : World} (r : Rel ρ h w) {a a' : Addr} {n : Nat} {l : List Value} (hl : aload h a n = some l)
    (ha : VRel ρ (.pointer (some a)) (.pointer (some a'))) : ∃ arr, (loadCells a' n).run P w = .ok arr w ∧ ARel ρ l.toArray arr ∧ arr.size = n :=
  let ⟨arr, h1, h2, h3⟩ := aload_all P r hl ha
  ⟨arr, h1 w rfl, h2, h3⟩

/-- Writing a row. -/
theorem astore_sound (P : Program) {ρ : Inj} {h h' : AHeap} {w : World} (r : Rel ρ h w) {a a' : Addr} {l l' : List Value} (hl : astore h a l = some h')
    (ha : VRel ρ (.pointer (some a)) (.pointer (some a'))) (hv : ARel ρ l.toArray l'.toArray) :
    ∃ w', (storeCells a' l').run P w = .ok () w' ∧ Rel ρ h' w' ∧ Ext ρ h w ρ h' w' ∧ h'.next = h.next := by
  have hlen : l.length = l'.length := by have := hv.1; simpa using this
  unfold astore at hl
  split at hl
  · have : l' = [] := List.length_eq_zero_iff.1 (by simpa using hlen.symm)
    subst this
    simp at hl; subst hl
    exact ⟨w, by simp [storeCells], r, Ext.refl _ _ _, rfl⟩
  rename_i v0 l0
  split at hl
  · rename_i ex c e hs hg
    cases ha with
    | ptr b o c2 d hb =>
    simp only at hl hg
    cases hone : allOne (v0 :: l0) with
    | false => rw [hone] at hl; cases hl
    | true =>
    rw [hone] at hl
    simp only [cond_true] at hl
    split at hl
    · rename_i c1 hlay
      simp at hl; subst hl
      obtain ⟨h1, h2, h3⟩ := lay_some hlay
      have h2 := h2.resolve_right (by simp)
      obtain ⟨c', lo, hi, hw, hc, hfz, hx, hsz, hap⟩ := (r.obj _ _ _ _ hb hg).cellsOf
      have hfit : d.1 + o + 0 + l'.length ≤ c'.size := by
        have hc0 : c ≠ [] := by intro e; subst e; simp at h2
        have := hsz hc0; omega
      have hone' : ∀ v, v ∈ l' → v.oneCell' = true := by
        intro v hm
        obtain ⟨i, hi', hi2⟩ := List.getElem_of_mem hm
        have hil : i < (v0 :: l0).length := by omega
        exact oneC_rel (hv.2 i (v0 :: l0)[i] v (by simp [List.getElem?_eq_getElem hil]) (by simp [List.getElem?_eq_getElem hi', hi2]))
          (allOne_get hone i _ (List.getElem?_eq_getElem hil))
      obtain ⟨w', hr, hw'⟩ := storeCells_run P (o := d.1 + o) l' 0 w c' hw hfit hone' (fun j p q => by
        have := hfz rfl (j - d.1) (by omega)
        rw [show d.1 + (j - d.1) = j from by omega] at this
        exact this)
      obtain ⟨ra, rb⟩ := r.write (o' := .cells .rw ex c1 e) (x := .cells (putRow c' (d.1 + o + 0) l') e (lo, hi)) hb hg rfl hw' (by
        refine .cells _ _ _ _ _ _ _ _ ?_ ?_ ?_ ?_
        · intro i v hv'
          rw [h3] at hv'
          rw [putRow_get l' c' (d.1 + o + 0) hfit]
          by_cases hin : o ≤ i ∧ i < o + (v0 :: l0).length
          · rw [if_pos hin] at hv'
            rw [if_pos (by omega)]
            have e2 : d.1 + i - (d.1 + o + 0) = i - o := by omega
            rw [e2]
            have hlt : i - o < l'.length := by omega
            exact ⟨l'[i - o], List.getElem?_eq_getElem hlt, hv.2 (i - o) v _ (by simpa using hv') (by simp [List.getElem?_eq_getElem hlt])⟩
          · rw [if_neg hin] at hv'
            rw [if_neg (by omega)]
            exact hc i v hv'
        · intro hm i hi'
          exact hfz hm i (by omega)
        · intro hxx
          obtain ⟨p, q⟩ := hx hxx
          exact ⟨p, by rw [putRow_size]; omega⟩
        · intro hxx
          obtain ⟨p, q⟩ := hap hxx
          exact ⟨by rw [putRow_size]; exact p, q.imp id (fun e => by omega)⟩)
      exact ⟨w', hr, ra, rb, rfl⟩
    · cases hl
  · cases hl

end Go.Tw
