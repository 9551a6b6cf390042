/- A second machine for Go's model: memory, and what holds between the two memories. Conditions: none. -/
import Derived.Test.YtdbnepjmepelcaaTwA
import Derived.Control
namespace Go.Tw

/-- How a row of cells may be used: 'ro': read alone; 'rw': it is this machine's own; 'fz': its own, but a string shares it. -/
inductive Md where
  | ro | rw | fz
  deriving DecidableEq

/-- Temporaries: how many, and what they hold. -/
structure Tmps where
  size : Nat
  t : Tr Value

def Tmps.set (T : Tmps) (i : Nat) (v : Option Value) : Tmps := cond (Nat.blt i T.size) { size := T.size, t := Tr.setK 20 T.t i v } T

/-- What is known of a row's end: it is known whole; nothing; it may be appended to. -/
inductive Ex where
  | exact | loose | app
  deriving DecidableEq

/-- What a block is. -/
inductive AObj where
  | cells (m : Md) (ex : Ex) (c : List Value) (elem : TypeId)
  | map (es : List MapEntry) (clock : Nat)
  | iter (s : ByteArray) (pos : Nat)
  | loop (state : LoopState) (pending : Option Code) (fn : FuncId) (tmps : Tmps) (params : Array Tmp) (assign body : Code) (defers : Nat)
  | deferred (calls : Option (List Deferred))
  | dead

structure AHeap where
  t : Tr AObj
  next : Nat

/-- How many blocks there may be. -/
def lim : Nat := 1048575

def AHeap.get (h : AHeap) (b : Nat) : Option AObj := cond (Nat.blt b h.next) (h.t.get b) none

def AHeap.put (h : AHeap) (b : Nat) (o : AObj) : AHeap := { t := Tr.setK 20 h.t b (some o), next := h.next }

def AHeap.push (h : AHeap) (o : AObj) : AHeap := { t := Tr.setK 20 h.t h.next (some o), next := h.next + 1 }

theorem AHeap.get_eq (h : AHeap) (b : Nat) : h.get b = if b < h.next then h.t.get b else none := by
  unfold AHeap.get
  by_cases hb : b < h.next
  · have : Nat.blt b h.next = true := by simp [Nat.blt]; omega
    simp [this, hb]
  · have : Nat.blt b h.next = false := by
      cases e : Nat.blt b h.next
      · rfl
      · simp [Nat.blt] at e; omega
    simp [this, hb]

theorem AHeap.get_none {h : AHeap} {b : Nat} (hb : h.next ≤ b) : h.get b = none := by
  rw [AHeap.get_eq, if_neg (by omega)]

theorem AHeap.lt_of_get {h : AHeap} {b : Nat} {o : AObj} (e : h.get b = some o) : b < h.next := by
  rcases Nat.lt_or_ge b h.next with hb | hb
  · exact hb
  · rw [AHeap.get_none hb] at e; cases e

theorem AHeap.get_put {h : AHeap} {b : Nat} (o : AObj) (hb : b < h.next) (hl : h.next < lim) (j : Nat) :
    (h.put b o).get j = if j = b then some o else h.get j := by
  unfold lim at hl
  rw [AHeap.get_eq, AHeap.get_eq]
  simp only [AHeap.put]
  rw [Tr.get_setK 20 h.t b (some o) j (by omega)]
  by_cases e : j = b
  · simp [e, hb]
  · simp [e]

theorem AHeap.get_push {h : AHeap} (o : AObj) (hl : h.next < lim) (j : Nat) :
    (h.push o).get j = if j = h.next then some o else h.get j := by
  unfold lim at hl
  rw [AHeap.get_eq, AHeap.get_eq]
  simp only [AHeap.push]
  rw [Tr.get_setK 20 h.t h.next (some o) j (by omega)]
  by_cases e : j = h.next
  · simp [e]
  · by_cases e2 : j < h.next
    · have : j < h.next + 1 := by omega
      simp [e, e2, this]
    · have : ¬ j < h.next + 1 := by omega
      simp [e2, e, this]

/-- Does a block belong to this machine alone? -/
def AObj.excl : AObj → Bool
  | .cells .ro _ _ _ => false
  | .dead => false
  | _ => true

def AObj.live : AObj → Bool
  | .dead => false
  | _ => true

def DRel (ρ : Inj) (d d' : Deferred) : Prop :=
  ARel ρ d.args d'.args ∧ match d.target, d'.target with
    | .fn f cap, .fn f' cap' => VRel ρ (.func f #[] cap) (.func f' #[] cap')
    | .collected b, .collected b' => ∃ x, ρ b = some (b', x)
    | _, _ => False

def DsRel (ρ : Inj) : List Deferred → List Deferred → Prop
  | [], [] => True
  | d :: ds, d' :: ds' => DRel ρ d d' ∧ DsRel ρ ds ds'
  | _, _ => False

/-- Temporaries that hold the same. -/
def TRel (ρ : Inj) (T : Tmps) (t : Array Value) : Prop := t.size = T.size ∧ T.size < lim ∧ ∀ i v, T.t.get i = some v → VRel ρ v (t.getD i undef)

/-- A block of this machine and the block of the other one. -/
inductive ORel (ρ : Inj) : AObj → Ofs → Option Obj → Prop where
  | cells (m : Md) (ex : Ex) (cs : List Value) (elem : TypeId) (d : Ofs) (c' : Array Value) (lo hi : Nat)
      (hc : ∀ (i : Nat) (v : Value), cs[i]? = some v → ∃ v', c'[d.1 + i]? = some v' ∧ VRel ρ v v')
      (hf : m = .rw → ∀ i, i < cs.length → ¬ (lo ≤ d.1 + i ∧ d.1 + i < hi))
      (hx : ex = .exact → d.1 = 0 ∧ c'.size = cs.length)
      (ha : ex = .app → d.2 ≤ c'.size ∧ (lo = hi ∨ hi ≤ d.1 + cs.length)) :
      ORel ρ (.cells m ex cs elem) d (some (.cells c' elem (lo, hi)))
  | map (es : List MapEntry) (es' : Array MapEntry) (clock : Nat) (d : Ofs) (hl : es.length = es'.size)
      (he : ∀ (i : Nat) (x x' : MapEntry), es[i]? = some x → es'[i]? = some x' → VRel ρ x.key x'.key ∧ VRel ρ x.val x'.val ∧ x.born = x'.born) :
      ORel ρ (.map es clock) d (some (.map es' clock))
  | iter (s : ByteArray) (pos : Nat) (d : Ofs) : ORel ρ (.iter s pos) d (some (.stringIter s pos))
  | loop (state : LoopState) (pending : Option Code) (fn : FuncId) (T : Tmps) (t : Array Value) (params : Array Tmp) (assign body : Code) (df df' : Nat) (d x : Ofs)
      (ht : TRel ρ T t) (hd : ρ df = some (df', x)) :
      ORel ρ (.loop state pending fn T params assign body df) d
        (some (.loop { state := state, pending := pending, fn := fn, tmps := t, params := params, assign := assign, body := body, defers := df' }))
  | deferredNone (d : Ofs) : ORel ρ (.deferred none) d (some (.deferred none))
  | deferred (l l' : List Deferred) (d : Ofs) (h : DsRel ρ l l') : ORel ρ (.deferred (some l)) d (some (.deferred (some l')))
  | dead (d : Ofs) (x : Option Obj) : ORel ρ .dead d x

/-- The two memories fit. -/
structure Rel (ρ : Inj) (h : AHeap) (w : World) : Prop where
  obj : ∀ b c d o, ρ b = some (c, d) → h.get b = some o → ORel ρ o d w.heap[c]?
  sep : ∀ b b' c d d' o o', b ≠ b' → ρ b = some (c, d) → ρ b' = some (c, d') → h.get b = some o → h.get b' = some o' → o.excl = true → o'.live = true → False
  dom : ∀ b c d, ρ b = some (c, d) → c < w.heap.size
  small : h.next < lim

/-- Is a block of the other machine one that this one has to itself? -/
def Mine (ρ : Inj) (h : AHeap) (c : Nat) : Prop := ∃ b d o, ρ b = some (c, d) ∧ h.get b = some o ∧ o.excl = true

/-- Is a block of the other machine one that this one may look at? -/
def Live (ρ : Inj) (h : AHeap) (c : Nat) : Prop := ∃ b d o, ρ b = some (c, d) ∧ h.get b = some o ∧ o.live = true

/-- The world outside is as it was. -/
def Kept (w w' : World) : Prop := w'.os = w.os ∧ w'.output = w.output

/-- What memory is now; the world outside is as it was. -/
def HeapIs (w w' : World) (x : Array Obj) : Prop := (w'.heap, w'.os, w'.output) = (x, w.os, w.output)

theorem HeapIs.heap {w w' : World} {x : Array Obj} (h : HeapIs w w' x) : w'.heap = x := congrArg (fun t : Array Obj × Os × Array (Nat × ByteArray) => t.1) h

theorem HeapIs.kept {w w' : World} {x : Array Obj} (h : HeapIs w w' x) : Kept w w' :=
  ⟨congrArg (fun t : Array Obj × Os × Array (Nat × ByteArray) => t.2.1) h, congrArg (fun t : Array Obj × Os × Array (Nat × ByteArray) => t.2.2) h⟩

theorem HeapIs.of {w w' : World} {x : Array Obj} (h : w'.heap = x) (k : Kept w w') : HeapIs w w' x := by
  unfold HeapIs
  rw [h, k.1, k.2]

/-- What becomes of the two memories. -/
structure Ext (ρ : Inj) (h : AHeap) (w : World) (ρ' : Inj) (h' : AHeap) (w' : World) : Prop where
  mono : ∀ b x, ρ b = some x → ρ' b = some x
  same : ∀ b, (b < h.next ∨ h'.next ≤ b) → ρ' b = ρ b
  next : h.next ≤ h'.next
  size : w.heap.size ≤ w'.heap.size
  frame : ∀ c, c < w.heap.size → ¬ Mine ρ h c → w'.heap[c]? = w.heap[c]?
  aframe : ∀ b, b < h.next → ρ b = none → h'.get b = h.get b
  fresh : ∀ c, Mine ρ' h' c → c < w.heap.size → Mine ρ h c
  live : ∀ c, Live ρ' h' c → c < w.heap.size → Live ρ h c
  out : Kept w w'

/-- No block that is still to come lies anywhere. -/
def Free (ρ : Inj) (h h' : AHeap) : Prop := ∀ b, h.next ≤ b → b < h'.next → ρ b = none

theorem Ext.refl (ρ : Inj) (h : AHeap) (w : World) : Ext ρ h w ρ h w :=
  ⟨fun _ _ e => e, fun _ _ => rfl, Nat.le_refl _, Nat.le_refl _, fun _ _ _ => rfl, fun _ _ _ => rfl, fun _ m _ => m, fun _ m _ => m, ⟨rfl, rfl⟩⟩

theorem Ext.trans {ρ ρ1 ρ2 : Inj} {h h1 h2 : AHeap} {w w1 w2 : World} (a : Ext ρ h w ρ1 h1 w1) (b : Ext ρ1 h1 w1 ρ2 h2 w2) :
    Ext ρ h w ρ2 h2 w2 where
  mono := fun x y e => b.mono _ _ (a.mono _ _ e)
  same := fun x hx => by
    rcases hx with hx | hx
    · have := a.next
      rw [b.same x (.inl (by omega)), a.same x (.inl hx)]
    · have := b.next
      rw [b.same x (.inr hx), a.same x (.inr (by omega))]
  next := Nat.le_trans a.next b.next
  size := Nat.le_trans a.size b.size
  frame := fun c hc hm => by
    rw [b.frame c (Nat.lt_of_lt_of_le hc a.size) (fun m => hm (a.fresh c m hc)), a.frame c hc hm]
  aframe := fun x hx hn => by
    rw [b.aframe x (Nat.lt_of_lt_of_le hx a.next) (by rw [a.same x (.inl hx)]; exact hn), a.aframe x hx hn]
  fresh := fun c m hc => a.fresh c (b.fresh c m (Nat.lt_of_lt_of_le hc a.size)) hc
  live := fun c m hc => a.live c (b.live c m (Nat.lt_of_lt_of_le hc a.size)) hc
  out := ⟨b.out.1.trans a.out.1, b.out.2.trans a.out.2⟩

theorem Free.left {ρ : Inj} {h h1 h2 : AHeap} (hf : Free ρ h h2) (hn : h1.next ≤ h2.next) : Free ρ h h1 :=
  fun b h0 h1' => hf b h0 (Nat.lt_of_lt_of_le h1' hn)

theorem Free.right {ρ ρ1 : Inj} {h h1 h2 : AHeap} {w w1 : World} (hf : Free ρ h h2) (a : Ext ρ h w ρ1 h1 w1) : Free ρ1 h1 h2 :=
  fun b h0 h2' => by rw [a.same b (.inr h0)]; exact hf b (Nat.le_trans a.next h0) h2'

theorem DRel.mono {ρ ρ' : Inj} (hm : ∀ b x, ρ b = some x → ρ' b = some x) {d d' : Deferred} (r : DRel ρ d d') : DRel ρ' d d' := by
  obtain ⟨ra, rt⟩ := r
  refine ⟨ra.mono hm, ?_⟩
  obtain ⟨t, as⟩ := d
  obtain ⟨t', as'⟩ := d'
  cases t <;> cases t' <;> simp only at rt ⊢ <;> try exact rt
  · exact rt.mono hm
  · obtain ⟨x, hx⟩ := rt; exact ⟨x, hm _ _ hx⟩

theorem DsRel.mono {ρ ρ' : Inj} (hm : ∀ b x, ρ b = some x → ρ' b = some x) : ∀ {l l' : List Deferred}, DsRel ρ l l' → DsRel ρ' l l'
  | [], [], _ => trivial
  | _ :: _, _ :: _, ⟨r, rs⟩ => ⟨r.mono hm, rs.mono hm⟩
  | [], _ :: _, r => r.elim
  | _ :: _, [], r => r.elim

theorem TRel.mono {ρ ρ' : Inj} (hm : ∀ b x, ρ b = some x → ρ' b = some x) {T : Tmps} {t : Array Value} (r : TRel ρ T t) : TRel ρ' T t :=
  ⟨r.1, r.2.1, fun i v h => (r.2.2 i v h).mono hm⟩

theorem ORel.mono {ρ ρ' : Inj} (hm : ∀ b x, ρ b = some x → ρ' b = some x) {o : AObj} {d : Ofs} {x : Option Obj} (r : ORel ρ o d x) : ORel ρ' o d x := by
  cases r with
  | cells m ex cs elem d c' lo hi hc hf hx ha =>
    exact .cells m ex cs elem d c' lo hi (fun i v hv => let ⟨v', a, b⟩ := hc i v hv; ⟨v', a, b.mono hm⟩) hf hx ha
  | map es es' clock d hl he => exact .map es es' clock d hl (fun i x x' a b => let ⟨p, q, r⟩ := he i x x' a b; ⟨p.mono hm, q.mono hm, r⟩)
  | iter s pos d => exact .iter s pos d
  | loop state pending fn T t params assign body df df' d x ht hd => exact .loop state pending fn T t params assign body df df' d x (ht.mono hm) (hm _ _ hd)
  | deferredNone d => exact .deferredNone d
  | deferred l l' d h => exact .deferred l l' d (h.mono hm)
  | dead d x => exact .dead d x

/-- The same memory behind whatever else the world turned. -/
theorem Rel.of_heap {ρ : Inj} {h : AHeap} {w w' : World} (r : Rel ρ h w) (e : w'.heap = w.heap) : Rel ρ h w' :=
  ⟨fun b c d o a b' => by rw [e]; exact r.obj b c d o a b', r.sep, fun b c d a => by rw [e]; exact r.dom b c d a, r.small⟩

theorem Ext.of_heap {ρ : Inj} {h : AHeap} {w w' : World} (e0 : HeapIs w w' w.heap) : Ext ρ h w ρ h w' :=
  have e : w'.heap = w.heap := HeapIs.heap e0
  ⟨fun _ _ e => e, fun _ _ => rfl, Nat.le_refl _, by rw [e]; exact Nat.le_refl _, fun _ _ _ => by rw [e], fun _ _ _ => rfl, fun _ m _ => m, fun _ m _ => m, HeapIs.kept e0⟩

/-- One block of this machine's own is written anew. -/
theorem Rel.write {ρ : Inj} {h : AHeap} {w w' : World} {b c : Nat} {d : Ofs} {o o' : AObj} {x : Obj} (r : Rel ρ h w) (hb : ρ b = some (c, d)) (ho : h.get b = some o)
    (he : o.excl = true) (hw0 : HeapIs w w' (w.heap.setIfInBounds c x)) (hr : ORel ρ o' d (some x)) :
    Rel ρ (h.put b o') w' ∧ Ext ρ h w ρ (h.put b o') w' := by
  have hw : w'.heap = w.heap.setIfInBounds c x := HeapIs.heap hw0
  have hlt := AHeap.lt_of_get ho
  have hg : ∀ j, (h.put b o').get j = if j = b then some o' else h.get j := AHeap.get_put o' hlt r.small
  have hc := r.dom b c d hb
  have hlive : o.live = true := by cases o <;> simp_all [AObj.excl, AObj.live]
  refine ⟨⟨?_, ?_, ?_, r.small⟩, ⟨fun _ _ e => e, fun _ _ => rfl, Nat.le_refl _, by simp [hw], ?_, ?_, ?_, ?_, HeapIs.kept hw0⟩⟩
  · intro b1 c1 d1 o1 h1 h2
    rw [hg] at h2
    by_cases e : b1 = b
    · subst e
      rw [hb] at h1
      simp at h1
      obtain ⟨rfl, rfl⟩ := h1
      simp at h2
      subst h2
      rw [hw]
      simpa [hc] using hr
    · simp [e] at h2
      by_cases ec : c1 = c
      · subst ec
        by_cases hl1 : o1.live = true
        · exact (r.sep b b1 c1 d d1 o o1 (fun e' => e e'.symm) hb h1 ho h2 he hl1).elim
        · have : o1 = .dead := by cases o1 <;> simp_all [AObj.live]
          subst this
          exact .dead _ _
      · have := r.obj b1 c1 d1 o1 h1 h2
        rw [hw, Array.getElem?_setIfInBounds_ne (fun e' => ec e'.symm)]
        exact this
  · intro b1 b2 c1 d1 d2 o1 o2 hne h1 h2 g1 g2 he1 hl2
    rw [hg] at g1 g2
    by_cases e1 : b1 = b
    · subst e1
      rw [hb] at h1
      simp at h1
      obtain ⟨rfl, rfl⟩ := h1
      have e2 : ¬ b2 = b1 := fun e => hne e.symm
      simp [e2] at g2
      exact r.sep b1 b2 c d d2 o o2 hne hb h2 ho g2 he hl2
    · simp [e1] at g1
      by_cases e2 : b2 = b
      · subst e2
        rw [hb] at h2
        simp at h2
        obtain ⟨rfl, rfl⟩ := h2
        exact r.sep b1 b2 c d1 d o1 o hne h1 hb g1 ho he1 hlive
      · simp [e2] at g2
        exact r.sep b1 b2 c1 d1 d2 o1 o2 hne h1 h2 g1 g2 he1 hl2
  · intro b1 c1 d1 h1
    rw [hw]
    simpa using r.dom b1 c1 d1 h1
  · intro c1 hc1 hm
    have : c ≠ c1 := fun e => hm ⟨b, d, o, e ▸ hb, ho, he⟩
    rw [hw, Array.getElem?_setIfInBounds_ne this]
  · intro b1 hb1 hn
    rw [hg, if_neg (fun e => by subst e; rw [hb] at hn; cases hn)]
  · rintro c1 ⟨b1, d1, o1, h1, g1, he1⟩ _
    rw [hg] at g1
    by_cases e1 : b1 = b
    · subst e1
      rw [hb] at h1
      simp at h1
      obtain ⟨rfl, rfl⟩ := h1
      exact ⟨b1, d, o, hb, ho, he⟩
    · simp [e1] at g1
      exact ⟨b1, d1, o1, h1, g1, he1⟩
  · rintro c1 ⟨b1, d1, o1, h1, g1, he1⟩ _
    rw [hg] at g1
    by_cases e1 : b1 = b
    · subst e1
      rw [hb] at h1
      simp at h1
      obtain ⟨rfl, rfl⟩ := h1
      exact ⟨b1, d, o, hb, ho, hlive⟩
    · simp [e1] at g1
      exact ⟨b1, d1, o1, h1, g1, he1⟩

/-- A new block, here and there. -/
def Inj.add (ρ : Inj) (b c : Nat) (d : Ofs) : Inj := fun x => if x = b then some (c, d) else ρ x

theorem Inj.add_mono {ρ : Inj} {b c : Nat} {d : Ofs} (hb : ρ b = none) : ∀ x y, ρ x = some y → ρ.add b c d x = some y := by
  intro x y e
  unfold Inj.add
  by_cases h : x = b
  · subst h; rw [hb] at e; cases e
  · rw [if_neg h]; exact e

theorem Rel.alloc {ρ : Inj} {h : AHeap} {w w' : World} {o : AObj} {x : Obj} (q : Ofs) (r : Rel ρ h w) (hl : h.next + 1 < lim) (hf : ρ h.next = none)
    (hw0 : HeapIs w w' (w.heap.push x)) (hr : ORel (ρ.add h.next w.heap.size q) o q (some x)) :
    Rel (ρ.add h.next w.heap.size q) (h.push o) w' ∧ Ext ρ h w (ρ.add h.next w.heap.size q) (h.push o) w' := by
  have hw : w'.heap = w.heap.push x := HeapIs.heap hw0
  have hm := Inj.add_mono (c := w.heap.size) (d := q) hf
  have hg : ∀ j, (h.push o).get j = if j = h.next then some o else h.get j := AHeap.get_push o r.small
  have hne : ∀ b c d, ρ b = some (c, d) → b ≠ h.next := fun b c d e e' => by subst e'; rw [hf] at e; cases e
  refine ⟨⟨?_, ?_, ?_, hl⟩, ⟨hm, ?_, Nat.le_succ _, by simp [hw], ?_, ?_, ?_, ?_, HeapIs.kept hw0⟩⟩
  · intro b1 c1 d1 o1 h1 h2
    rw [hg] at h2
    by_cases e : b1 = h.next
    · subst e
      simp [Inj.add] at h1
      obtain ⟨rfl, rfl⟩ := h1
      simp at h2
      subst h2
      rw [hw]
      simpa using hr
    · simp [Inj.add, e] at h1
      simp [e] at h2
      have hc := r.dom b1 c1 d1 h1
      rw [hw, Array.getElem?_push_lt hc]
      have := (r.obj b1 c1 d1 o1 h1 h2).mono hm
      rw [Array.getElem?_eq_getElem hc] at this
      exact this
  · intro b1 b2 c1 d1 d2 o1 o2 hne' h1 h2 g1 g2 he1 hl2
    rw [hg] at g1 g2
    by_cases e1 : b1 = h.next
    · have e2 : ¬ b2 = h.next := fun e => hne' (e1.trans e.symm)
      simp [Inj.add, e1] at h1
      simp [Inj.add, e2] at h2
      have := r.dom b2 c1 d2 h2
      omega
    · by_cases e2 : b2 = h.next
      · simp [Inj.add, e2] at h2
        simp [Inj.add, e1] at h1
        have := r.dom b1 c1 d1 h1
        omega
      · simp [Inj.add, e1] at h1
        simp [Inj.add, e2] at h2
        simp [e1] at g1
        simp [e2] at g2
        exact r.sep b1 b2 c1 d1 d2 o1 o2 hne' h1 h2 g1 g2 he1 hl2
  · intro b1 c1 d1 h1
    rw [hw]
    by_cases e : b1 = h.next
    · simp [Inj.add, e] at h1
      simp
      omega
    · simp [Inj.add, e] at h1
      have := r.dom b1 c1 d1 h1
      simp
      omega
  · intro b1 hb1
    unfold Inj.add
    rw [if_neg]
    rcases hb1 with hb1 | hb1
    · omega
    · simp only [AHeap.push] at hb1; omega
  · intro c1 hc1 _
    rw [hw, Array.getElem?_push_lt hc1, Array.getElem?_eq_getElem hc1]
  · intro b1 hb1 _
    rw [hg, if_neg (by omega)]
  · rintro c1 ⟨b1, d1, o1, h1, g1, he1⟩ hc1
    rw [hg] at g1
    by_cases e1 : b1 = h.next
    · simp [Inj.add, e1] at h1
      omega
    · simp [Inj.add, e1] at h1
      simp [e1] at g1
      exact ⟨b1, d1, o1, h1, g1, he1⟩
  · rintro c1 ⟨b1, d1, o1, h1, g1, he1⟩ hc1
    rw [hg] at g1
    by_cases e1 : b1 = h.next
    · simp [Inj.add, e1] at h1
      omega
    · simp [Inj.add, e1] at h1
      simp [e1] at g1
      exact ⟨b1, d1, o1, h1, g1, he1⟩

/-- A row of this machine's own goes on under a new name (what append leaves where there was room). -/
theorem Rel.renew {ρ : Inj} {h : AHeap} {w w' : World} {b c : Nat} {d d' : Ofs} {o o' : AObj} {x : Obj} (r : Rel ρ h w) (hl : h.next + 1 < lim) (hf : ρ h.next = none)
    (hb : ρ b = some (c, d)) (ho : h.get b = some o) (he : o.excl = true) (hw0 : HeapIs w w' (w.heap.setIfInBounds c x))
    (hr : ORel (ρ.add h.next c d') o' d' (some x)) :
    Rel (ρ.add h.next c d') ((h.put b .dead).push o') w' ∧ Ext ρ h w (ρ.add h.next c d') ((h.put b .dead).push o') w' := by
  have hw : w'.heap = w.heap.setIfInBounds c x := HeapIs.heap hw0
  have hm := Inj.add_mono (c := c) (d := d') hf
  have hlt := AHeap.lt_of_get ho
  have hc := r.dom b c d hb
  have hlive : o.live = true := by cases o <;> simp_all [AObj.excl, AObj.live]
  have hbn : b ≠ h.next := by omega
  have hg : ∀ j, ((h.put b .dead).push o').get j = if j = h.next then some o' else if j = b then some .dead else h.get j := by
    intro j
    rw [AHeap.get_push (h := h.put b .dead) o' r.small, AHeap.get_put .dead hlt r.small]
    rfl
  have old : ∀ b1 c1 d1 o1, b1 ≠ h.next → (if b1 = b then some AObj.dead else h.get b1) = some o1 → ρ b1 = some (c1, d1) → o1.live = true → c1 ≠ c ∧ h.get b1 = some o1 := by
    intro b1 c1 d1 o1 _ g1 h1 hl1
    by_cases e : b1 = b
    · simp [e] at g1; subst g1; simp [AObj.live] at hl1
    · simp [e] at g1
      exact ⟨fun ec => by subst ec; exact r.sep b b1 c1 d d1 o o1 (fun e' => e e'.symm) hb h1 ho g1 he hl1, g1⟩
  refine ⟨⟨?_, ?_, ?_, hl⟩, ⟨hm, ?_, Nat.le_succ _, by simp [hw], ?_, ?_, ?_, ?_, HeapIs.kept hw0⟩⟩
  · intro b1 c1 d1 o1 h1 h2
    rw [hg] at h2
    by_cases e : b1 = h.next
    · subst e
      simp [Inj.add] at h1
      obtain ⟨rfl, rfl⟩ := h1
      simp at h2
      subst h2
      rw [hw]
      simpa [hc] using hr
    · simp [Inj.add, e] at h1
      rw [if_neg e] at h2
      by_cases hl1 : o1.live = true
      · obtain ⟨hne, h2'⟩ := old b1 c1 d1 o1 e h2 h1 hl1
        rw [hw, Array.getElem?_setIfInBounds_ne (fun e' => hne e'.symm)]
        exact (r.obj b1 c1 d1 o1 h1 h2').mono hm
      · have : o1 = .dead := by cases o1 <;> simp_all [AObj.live]
        subst this
        exact .dead _ _
  · intro b1 b2 c1 d1 d2 o1 o2 hne' h1 h2 g1 g2 he1 hl2
    rw [hg] at g1 g2
    have hl1 : o1.live = true := by cases o1 <;> simp_all [AObj.excl, AObj.live]
    by_cases e1 : b1 = h.next
    · have e2 : ¬ b2 = h.next := fun e => hne' (e1.trans e.symm)
      simp [Inj.add, e1] at h1
      simp [Inj.add, e2] at h2
      rw [if_neg e2] at g2
      exact (old b2 c1 d2 o2 e2 g2 h2 hl2).1 h1.1.symm
    · simp [Inj.add, e1] at h1
      rw [if_neg e1] at g1
      by_cases e2 : b2 = h.next
      · simp [Inj.add, e2] at h2
        exact (old b1 c1 d1 o1 e1 g1 h1 hl1).1 h2.1.symm
      · simp [Inj.add, e2] at h2
        rw [if_neg e2] at g2
        exact r.sep b1 b2 c1 d1 d2 o1 o2 hne' h1 h2 (old b1 c1 d1 o1 e1 g1 h1 hl1).2 (old b2 c1 d2 o2 e2 g2 h2 hl2).2 he1 hl2
  · intro b1 c1 d1 h1
    rw [hw]
    by_cases e : b1 = h.next
    · simp [Inj.add, e] at h1
      simp
      omega
    · simp [Inj.add, e] at h1
      have := r.dom b1 c1 d1 h1
      simp
      omega
  · intro b1 hb1
    unfold Inj.add
    rw [if_neg]
    rcases hb1 with hb1 | hb1
    · omega
    · simp only [AHeap.push, AHeap.put] at hb1; omega
  · intro c1 hc1 hn
    have : c ≠ c1 := fun e => hn ⟨b, d, o, e ▸ hb, ho, he⟩
    rw [hw, Array.getElem?_setIfInBounds_ne this]
  · intro b1 hb1 hn
    have e1 : ¬ b1 = h.next := by omega
    have e2 : ¬ b1 = b := fun e => by subst e; rw [hb] at hn; cases hn
    rw [hg, if_neg e1, if_neg e2]
  · rintro c1 ⟨b1, d1, o1, h1, g1, he1⟩ hc1
    rw [hg] at g1
    by_cases e1 : b1 = h.next
    · simp [Inj.add, e1] at h1
      exact ⟨b, d, o, h1.1 ▸ hb, ho, he⟩
    · simp [Inj.add, e1] at h1
      rw [if_neg e1] at g1
      have hl1 : o1.live = true := by cases o1 <;> simp_all [AObj.excl, AObj.live]
      exact ⟨b1, d1, o1, h1, (old b1 c1 d1 o1 e1 g1 h1 hl1).2, he1⟩
  · rintro c1 ⟨b1, d1, o1, h1, g1, hl1⟩ hc1
    rw [hg] at g1
    by_cases e1 : b1 = h.next
    · simp [Inj.add, e1] at h1
      exact ⟨b, d, o, h1.1 ▸ hb, ho, hlive⟩
    · simp [Inj.add, e1] at h1
      rw [if_neg e1] at g1
      exact ⟨b1, d1, o1, h1, (old b1 c1 d1 o1 e1 g1 h1 hl1).2, hl1⟩

end Go.Tw
