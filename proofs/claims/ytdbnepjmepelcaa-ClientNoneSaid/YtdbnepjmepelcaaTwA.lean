/- A second machine for Go's model: its memory and its values. Conditions: none (definitions and their laws). -/
import GoSem.Dispatch
namespace Go.Tw

/-- A map from numbers, as a binary tree. -/
inductive Tr (α : Type) : Type where
  | nil
  | node (v : Option α) (l r : Tr α)

def Tr.get {α : Type} : Tr α → Nat → Option α
  | .nil, _ => none
  | .node v l r, n => match n with
    | 0 => v
    | m + 1 => cond (Nat.beq (m % 2) 0) (l.get (m / 2)) (r.get (m / 2))

def Tr.setK {α : Type} : Nat → Tr α → Nat → Option α → Tr α
  | 0, t, _, _ => t
  | k + 1, .nil, n, x => match n with
    | 0 => .node x .nil .nil
    | m + 1 => cond (Nat.beq (m % 2) 0) (.node none (Tr.setK k .nil (m / 2) x) .nil) (.node none .nil (Tr.setK k .nil (m / 2) x))
  | k + 1, .node v l r, n, x => match n with
    | 0 => .node x l r
    | m + 1 => cond (Nat.beq (m % 2) 0) (.node v (Tr.setK k l (m / 2) x) r) (.node v l (Tr.setK k r (m / 2) x))

theorem Tr.get_nil {α : Type} (n : Nat) : (Tr.nil : Tr α).get n = none := rfl

theorem beq_cond {β : Type} (m : Nat) (a b : β) : cond (Nat.beq (m % 2) 0) a b = if m % 2 = 0 then a else b := by
  by_cases h : m % 2 = 0
  · simp [h]
  · have : Nat.beq (m % 2) 0 = false := by
      cases hb : Nat.beq (m % 2) 0
      · rfl
      · exact absurd (Nat.eq_of_beq_eq_true hb) h
    simp [h, this]

theorem Tr.get_node_succ {α : Type} (v : Option α) (l r : Tr α) (m : Nat) :
    (Tr.node v l r).get (m + 1) = if m % 2 = 0 then l.get (m / 2) else r.get (m / 2) := by
  simp only [Tr.get, beq_cond]

/-- What a set is good for: numbers below 2^k - 1. -/
theorem Tr.get_setK {α : Type} : ∀ (k : Nat) (t : Tr α) (n : Nat) (x : Option α) (j : Nat), n + 1 < 2 ^ k →
    (Tr.setK k t n x).get j = if j = n then x else t.get j := by
  intro k
  induction k with
  | zero => intro t n x j h; simp at h
  | succ k ih =>
    intro t n x j h
    have hp : 2 ^ (k + 1) = 2 * 2 ^ k := by rw [Nat.pow_succ]; omega
    cases t with
    | nil =>
      cases n with
      | zero =>
        cases j with
        | zero => simp [Tr.setK, Tr.get]
        | succ j => simp [Tr.setK, Tr.get_node_succ, Tr.get]
      | succ m =>
        have hm : m / 2 + 1 < 2 ^ k := by omega
        simp only [Tr.setK, beq_cond]
        cases j with
        | zero => by_cases e : m % 2 = 0 <;> simp [e, Tr.get]
        | succ j =>
          by_cases e : m % 2 = 0
          · simp only [e, if_true, Tr.get_node_succ, ih _ _ _ _ hm, Tr.get_nil]
            by_cases ej : j % 2 = 0
            · by_cases e2 : j / 2 = m / 2
              · have : j = m := by omega
                simp [this, e]
              · have : ¬ j = m := by omega
                simp [ej, e2, this]
            · have : ¬ j = m := by omega
              simp [ej, this]
          · simp only [e, if_false, Tr.get_node_succ, ih _ _ _ _ hm, Tr.get_nil]
            by_cases ej : j % 2 = 0
            · have : ¬ j = m := by omega
              simp [ej, this]
            · by_cases e2 : j / 2 = m / 2
              · have : j = m := by omega
                simp [this, e]
              · have : ¬ j = m := by omega
                simp [ej, e2, this]
    | node v l r =>
      cases n with
      | zero =>
        cases j with
        | zero => simp [Tr.setK, Tr.get]
        | succ j => simp [Tr.setK, Tr.get_node_succ]
      | succ m =>
        have hm : m / 2 + 1 < 2 ^ k := by omega
        simp only [Tr.setK, beq_cond]
        cases j with
        | zero => by_cases e : m % 2 = 0 <;> simp [e, Tr.get]
        | succ j =>
          by_cases e : m % 2 = 0
          · simp only [e, if_true, Tr.get_node_succ, ih _ _ _ _ hm]
            by_cases ej : j % 2 = 0
            · by_cases e2 : j / 2 = m / 2
              · have : j = m := by omega
                simp [this, e]
              · have : ¬ j = m := by omega
                simp [ej, e2, this]
            · have : ¬ j = m := by omega
              simp [ej, this]
          · simp only [e, if_false, Tr.get_node_succ, ih _ _ _ _ hm]
            by_cases ej : j % 2 = 0
            · have : ¬ j = m := by omega
              simp [ej, this]
            · by_cases e2 : j / 2 = m / 2
              · have : j = m := by omega
                simp [this, e]
              · have : ¬ j = m := by omega
                simp [ej, e2, this]

/-- How many cells lie ahead of an abstract block, and how many the whole block has (of a row that may be appended to). -/
abbrev Ofs := Nat × Nat

/-- Where an abstract block lies: the block, and where in it. -/
abbrev Inj := Nat → Option (Nat × Ofs)

/-- 'The capacity is not known': from here on no slice has it; what is over it is the size of an element, of a row that may be appended to. -/
def ucap : Nat := 18446744073709551616

/-- The same value, but for where blocks lie and how much room slices have. -/
inductive VRel (ρ : Inj) : Value → Value → Prop where
  | bool (b : Bool) : VRel ρ (.bool b) (.bool b)
  | int (k : IntKind) (n : Int) : VRel ρ (.int k n) (.int k n)
  | float (k : FloatKind) (n : Nat) : VRel ρ (.float k n) (.float k n)
  | complex (k : FloatKind) (n m : Nat) : VRel ρ (.complex k n m) (.complex k n m)
  | string (s : ByteArray) : VRel ρ (.string s) (.string s)
  | ptrNil : VRel ρ (.pointer none) (.pointer none)
  | ptr (b o c : Nat) (d : Ofs) (h : ρ b = some (c, d)) : VRel ρ (.pointer (some ⟨b, o, none⟩)) (.pointer (some ⟨c, d.1 + o, none⟩))
  | sliceNil (n k : Nat) : VRel ρ (.slice none n k) (.slice none n k)
  | slice (b o c : Nat) (d : Ofs) (n k k' : Nat) (h : ρ b = some (c, d))
      (hk : (k < ucap ∧ k = k') ∨ (ucap ≤ k ∧ n ≤ k' ∧ (k = ucap ∨ d.1 + o + k' * (k - ucap) ≤ d.2))) :
      VRel ρ (.slice (some ⟨b, o, none⟩) n k) (.slice (some ⟨c, d.1 + o, none⟩) n k')
  | wild (a a' : Addr) (k' : Nat) (h : a.spot.isSome = true) : VRel ρ (.slice (some a) 0 ucap) (.slice (some a') 0 k')
  | mapNil : VRel ρ (.map none) (.map none)
  | map (b c : Nat) (d : Ofs) (h : ρ b = some (c, d)) : VRel ρ (.map (some b)) (.map (some c))
  | chanNil : VRel ρ (.chan none) (.chan none)
  | nilFunc : VRel ρ .nilFunc .nilFunc
  | yield (b c : Nat) (d : Ofs) (h : ρ b = some (c, d)) : VRel ρ (.func (.yield b) #[] #[]) (.func (.yield c) #[] #[])
  | func (fn : Fn) (hf : ∀ l, fn ≠ .yield l) (x x' y y' : Array Value) (hx : x.size = x'.size) (hy : y.size = y'.size)
      (rx : ∀ (i : Nat) (u u' : Value), x[i]? = some u → x'[i]? = some u' → VRel ρ u u') (ry : ∀ (i : Nat) (u u' : Value), y[i]? = some u → y'[i]? = some u' → VRel ρ u u') :
      VRel ρ (.func fn x y) (.func fn x' y')
  | nilIface : VRel ρ .nilIface .nilIface
  | iface (t : TypeId) (v v' : Value) (h : VRel ρ v v') : VRel ρ (.iface t v) (.iface t v')
  | agg (x x' : Array Value) (hx : x.size = x'.size) (rx : ∀ (i : Nat) (u u' : Value), x[i]? = some u → x'[i]? = some u' → VRel ρ u u') : VRel ρ (.agg x) (.agg x')
  | tuple (x x' : Array Value) (hx : x.size = x'.size) (rx : ∀ (i : Nat) (u u' : Value), x[i]? = some u → x'[i]? = some u' → VRel ρ u u') : VRel ρ (.tuple x) (.tuple x')

/-- Rows of values, one by one the same. -/
def ARel (ρ : Inj) (x x' : Array Value) : Prop := x.size = x'.size ∧ ∀ (i : Nat) (u u' : Value), x[i]? = some u → x'[i]? = some u' → VRel ρ u u'

theorem VRel.mono {ρ ρ' : Inj} (h : ∀ b x, ρ b = some x → ρ' b = some x) {v v' : Value} (r : VRel ρ v v') : VRel ρ' v v' := by
  induction r with
  | bool b => exact .bool b
  | int k n => exact .int k n
  | float k n => exact .float k n
  | complex k n m => exact .complex k n m
  | string s => exact .string s
  | ptrNil => exact .ptrNil
  | ptr b o c d hb => exact .ptr b o c d (h _ _ hb)
  | sliceNil n k => exact .sliceNil n k
  | slice b o c d n k k' hb hk => exact .slice b o c d n k k' (h _ _ hb) hk
  | wild a a' k' h => exact .wild a a' k' h
  | mapNil => exact .mapNil
  | map b c d hb => exact .map b c d (h _ _ hb)
  | chanNil => exact .chanNil
  | nilFunc => exact .nilFunc
  | yield b c d hb => exact .yield b c d (h _ _ hb)
  | func fn hf x x' y y' hx hy _ _ ihx ihy => exact .func fn hf x x' y y' hx hy ihx ihy
  | nilIface => exact .nilIface
  | iface t v v' _ ih => exact .iface t v v' ih
  | agg x x' hx _ ih => exact .agg x x' hx ih
  | tuple x x' hx _ ih => exact .tuple x x' hx ih

theorem ARel.mono {ρ ρ' : Inj} (h : ∀ b x, ρ b = some x → ρ' b = some x) {x x' : Array Value} (r : ARel ρ x x') : ARel ρ' x x' :=
  ⟨r.1, fun i u u' a b => (r.2 i u u' a b).mono h⟩

theorem VRel.agg_of {ρ : Inj} {x x' : Array Value} (r : ARel ρ x x') : VRel ρ (.agg x) (.agg x') := .agg x x' r.1 r.2
theorem VRel.tuple_of {ρ : Inj} {x x' : Array Value} (r : ARel ρ x x') : VRel ρ (.tuple x) (.tuple x') := .tuple x x' r.1 r.2

theorem ARel.nil (ρ : Inj) : ARel ρ #[] #[] := ⟨rfl, fun i u u' h => by simp at h⟩

theorem ARel.get {ρ : Inj} {x x' : Array Value} (r : ARel ρ x x') {i : Nat} {u : Value} (h : x[i]? = some u) : ∃ u', x'[i]? = some u' ∧ VRel ρ u u' := by
  have hi : i < x.size := by
    rcases Nat.lt_or_ge i x.size with hh | hh
    · exact hh
    · simp [Array.getElem?_eq_none hh] at h
  have hi' : i < x'.size := r.1 ▸ hi
  exact ⟨x'[i], by simp [hi'], r.2 i u _ h (by simp [hi'])⟩

theorem ARel.of_cells {ρ : Inj} {v v' : Value} (h : VRel ρ v v') : ARel ρ v.cells v'.cells := by
  cases h with
  | agg x x' hx rx => exact ⟨hx, rx⟩
  | _ =>
    refine ⟨rfl, fun i u u' hu hu' => ?_⟩
    cases i with
    | zero =>
      simp [Value.cells] at hu hu'
      subst hu; subst hu'
      constructor <;> assumption
    | succ i => simp [Value.cells] at hu

end Go.Tw
