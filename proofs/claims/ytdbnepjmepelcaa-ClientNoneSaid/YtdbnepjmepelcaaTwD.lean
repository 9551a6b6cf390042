/- A second machine for Go's model: operations that read no memory. Conditions: none. -/
import Derived.Test.YtdbnepjmepelcaaTwC
import Derived.Laws.Entries
import Derived.Laws.Small
import Derived.Laws.Slices
import Derived.Laws.StructEq
namespace Go.Tw

/-- A value without addresses, of one cell (or none). -/
def plain : Value → Bool
  | .bool _ | .int _ _ | .float _ _ | .complex _ _ _ | .string _ | .pointer none | .slice none _ _ | .map none | .chan none | .nilFunc | .nilIface => true
  | .tuple vs => vs.size == 0
  | _ => false

def plainAll : List Value → Bool
  | [] => true
  | v :: r => plain v && plainAll r

/-- A value without addresses. -/
def flat : Value → Bool
  | .agg vs => plainAll vs.toList
  | v => plain v

theorem plain_rel (ρ : Inj) {v : Value} (h : plain v = true) : VRel ρ v v := by
  cases v with
  | bool b => exact .bool b
  | int k n => exact .int k n
  | float k n => exact .float k n
  | complex k n m => exact .complex k n m
  | string s => exact .string s
  | pointer a => cases a with
    | none => exact .ptrNil
    | some a => simp [plain] at h
  | slice a n k => cases a with
    | none => exact .sliceNil n k
    | some a => simp [plain] at h
  | map r => cases r with
    | none => exact .mapNil
    | some a => simp [plain] at h
  | chan r => cases r with
    | none => exact .chanNil
    | some a => simp [plain] at h
  | nilFunc => exact .nilFunc
  | nilIface => exact .nilIface
  | tuple vs =>
    simp [plain] at h
    subst h
    exact .tuple_of (ARel.nil ρ)
  | _ => simp [plain] at h

theorem plainAll_get : ∀ {l : List Value}, plainAll l = true → ∀ (i : Nat) (v : Value), l[i]? = some v → plain v = true
  | [], _, i, v, h => by simp at h
  | x :: r, h, i, v, hi => by
    simp [plainAll] at h
    cases i with
    | zero => simp at hi; subst hi; exact h.1
    | succ i => exact plainAll_get h.2 i v (by simpa using hi)

theorem plainAll_rel (ρ : Inj) {x : Array Value} (h : plainAll x.toList = true) : ARel ρ x x :=
  ⟨rfl, fun i u u' a b => by
    rw [a] at b; simp at b; subst b
    exact plain_rel ρ (plainAll_get h i u (by simpa using a))⟩

theorem flat_rel (ρ : Inj) {v : Value} (h : flat v = true) : VRel ρ v v := by
  cases v with
  | agg vs => exact .agg_of (plainAll_rel ρ h)
  | _ => exact plain_rel ρ h

/-- Two plain values that are the same up to where things lie are the same. -/
theorem plain_eq {ρ : Inj} {v v' : Value} (r : VRel ρ v v') (h : plain v = true) : v' = v := by
  cases r <;> simp_all [plain]

/-! Types. -/
def aggQ (P : Program) (t : TypeId) : Option Bool := match P.underlying t with
  | some (.struct _) => some true
  | some (.array _ _) => some true
  | some _ => some false
  | none => none

def szQ (P : Program) (t : TypeId) : Option Nat := match P.info? t with
  | some i => some i.size
  | none => none

def bytesQ (P : Program) (t : TypeId) : Nat := match P.info? t with
  | some i => i.bytes
  | none => 0

def zeroQ (P : Program) (t : TypeId) : Option Value := match P.info? t with
  | some i => match i.zero with
    | some v => cond (flat v) (some v) none
    | none => none
  | none => none

def fieldQ (P : Program) (t : TypeId) (f : Nat) : Option Field := match P.underlying t with
  | some (.struct fs) => fs[f]?
  | _ => none

def elemQ (P : Program) (t : TypeId) : Option TypeId := match P.underlying t with
  | some (.slice e) => some e
  | _ => none

section
variable {P : Program} (w : World)

theorem run_typeInfo {t : TypeId} {i : TypeInfo} (h : P.info? t = some i) : (typeInfo t).run P w = .ok i w := by
  simp [typeInfo, h]

theorem run_sizeOf {t : TypeId} {n : Nat} (h : szQ P t = some n) : (sizeOf t).run P w = .ok n w := by
  unfold szQ at h
  split at h
  · rename_i i hi
    simp at h; subst h
    simp [sizeOf, run_typeInfo w hi]
  · cases h

theorem run_zeroValue {t : TypeId} {v : Value} (h : zeroQ P t = some v) : (zeroValue t).run P w = .ok v w ∧ flat v = true := by
  unfold zeroQ at h
  split at h
  · rename_i i hi
    split at h
    · rename_i u hz
      cases hf : flat u with
      | false => simp [hf] at h
      | true =>
        simp [hf] at h; subst h
        exact ⟨by simp [zeroValue, run_typeInfo w hi, hz], hf⟩
    · cases h
  · cases h

theorem run_isAgg {t : TypeId} {b : Bool} (h : aggQ P t = some b) : (isAgg t).run P w = .ok b w := by
  unfold aggQ at h
  cases hu : P.underlying t with
  | none => simp [hu] at h
  | some d => cases d <;> simp [hu] at h <;> subst h <;> simp [isAgg, run_underlying hu]

end

/-! A part of a struct. -/
def aPart (P : Program) (t : TypeId) (cs : List Value) (off : Nat) : Option Value :=
  match aggQ P t, szQ P t with
  | some true, some n => match cut n (skip off cs) with
    | some l => some (.agg l.toArray)
    | none => none
  | some false, _ => cs[off]?
  | _, _ => none

theorem ARel.of_list {ρ : Inj} {x x' : Array Value} (r : ARel ρ x x') : x.toList.length = x'.toList.length ∧ ∀ (i : Nat) (u u' : Value), x.toList[i]? = some u → x'.toList[i]? = some u' → VRel ρ u u' :=
  ⟨by simpa using r.1, fun i u u' a b => r.2 i u u' (by simpa using a) (by simpa using b)⟩

theorem aPart_sound {P : Program} {ρ : Inj} {t : TypeId} {cs cs' : Array Value} {off : Nat} {v : Value} (h : aPart P t cs.toList off = some v) (r : ARel ρ cs cs') (w : World) :
    ∃ v', (part t cs' off).run P w = .ok v' w ∧ VRel ρ v v' := by
  unfold aPart at h
  split at h
  · rename_i n ha hs
    split at h
    · rename_i l hl
      simp at h; subst h
      obtain ⟨h1, h2⟩ := cut_some hl
      refine ⟨.agg (cs'.extract off (off + n)), by simp [part, run_isAgg w ha, run_sizeOf w hs], .agg_of ⟨?_, ?_⟩⟩
      · have : ∀ i, i < n → i + off < cs.size := by
          intro i hi
          have := h2 i hi
          rw [skip_get, List.getElem?_eq_getElem (by omega)] at this
          rcases Nat.lt_or_ge (i + off) cs.size with hh | hh
          · exact hh
          · rw [List.getElem?_eq_none (by simp; omega)] at this
            cases this
        have hr := r.1
        rcases Nat.eq_zero_or_pos n with hz | hz
        · subst hz
          simp [h1]; omega
        · have := this (n - 1) (by omega)
          simp [h1]; omega
      · intro i u u' hu hu'
        have hi : i < n := by
          rcases Nat.lt_or_ge i n with hh | hh
          · exact hh
          · have : l.toArray.size ≤ i := by simp; omega
            simp [Array.getElem?_eq_none this] at hu
        simp at hu
        rw [h2 i hi, skip_get] at hu
        rw [Array.getElem?_extract] at hu'
        split at hu'
        · exact r.2 (off + i) u u' (by simpa using hu) hu'
        · cases hu'
    · cases h
  · rename_i n ha
    obtain ⟨v', h1, h2⟩ := r.get (i := off) (u := v) (by simpa using h)
    exact ⟨v', by simp [part, run_isAgg w ha, h1], h2⟩
  · cases h

/-! Equality. -/
def bytesEq : List UInt8 → List UInt8 → Bool
  | [], [] => true
  | a :: x, b :: y => cond (Nat.beq a.toNat b.toNat) (bytesEq x y) false
  | _, _ => false

theorem bytesEq_eq : ∀ (x y : List UInt8), bytesEq x y = (x == y)
  | [], [] => rfl
  | [], b :: y => by simp [bytesEq]
  | a :: x, [] => by simp [bytesEq]
  | a :: x, b :: y => by
    simp only [bytesEq, bytesEq_eq x y]
    by_cases e : a = b
    · subst e; simp
    · have : Nat.beq a.toNat b.toNat = false := by
        cases hb : Nat.beq a.toNat b.toNat
        · rfl
        · exact absurd (UInt8.toNat_inj.1 (Nat.eq_of_beq_eq_true hb)) e
      rw [this]
      simp [e]

def strEq (a b : ByteArray) : Bool := bytesEq a.data.toList b.data.toList

theorem strEq_eq (a b : ByteArray) : strEq a b = (a.toList == b.toList) := by
  rw [ByteArray.toList_eq, ByteArray.toList_eq, strEq, bytesEq_eq]

theorem strEq_beq (a b : ByteArray) : strEq a b = (a == b) := by rw [strEq_eq, beq_toListBytes]

mutual
def aEq (P : Program) : Nat → TypeId → Value → Value → Option Bool
  | 0, _, _, _ => none
  | d + 1, t, x, y => match P.underlying t, x, y with
    | some .bool, .bool a, .bool b => some (a == b)
    | some (.int _), .int k a, .int k' b => cond (decide (k = k')) (some (a == b)) none
    | some .string, .string a, .string b => some (strEq a b)
    | some (.pointer _), .pointer none, .pointer b => some b.isNone
    | some (.pointer _), .pointer (some _), .pointer none => some false
    | some (.interface _), .nilIface, .nilIface => some true
    | some (.interface _), .nilIface, .iface _ _ => some false
    | some (.interface _), .iface _ _, .nilIface => some false
    | some (.slice _), .slice none _ _, .slice b _ _ => some b.isNone
    | some (.slice _), .slice (some _) _ _, .slice none _ _ => some false
    | some (.map _ _), .map none, .map b => some b.isNone
    | some (.map _ _), .map (some _), .map none => some false
    | some (.func _ _ _), .nilFunc, .nilFunc => some true
    | some (.func _ _ _), .nilFunc, .func _ _ _ => some false
    | some (.func _ _ _), .func _ _ _, .nilFunc => some false
    | some (.struct fs), .agg xs, .agg ys => cond (P.stoodInHeld t) none (aEqs P d fs.toList xs.toList ys.toList)
    | _, _, _ => none
def aEqs (P : Program) : Nat → List Field → List Value → List Value → Option Bool
  | 0, _, _, _ => none
  | _ + 1, [], _, _ => some true
  | d + 1, f :: fs, xs, ys => cond (f.name == "_") none (match aPart P f.type xs f.offset, aPart P f.type ys f.offset with
    | some a, some b => match aEq P d f.type a b with
      | some true => aEqs P d fs xs ys
      | some false => some false
      | none => none
    | _, _ => none)
end


theorem run_eqFields_cons {P : Program} {D : Nat} {xs ys : Array Value} {f : Field} {fs : List Field} {a b : Value} {r : Bool} {w : World} (hn : f.name ≠ "_")
    (ha : (part f.type xs f.offset).run P w = .ok a w) (hb : (part f.type ys f.offset).run P w = .ok b w) (hr : (Op.equalIn D f.type a b).run P w = .ok r w) :
    (Op.eqFields D xs ys (f :: fs)).run P w = if r = true then (Op.eqFields D xs ys fs).run P w else .ok false w := by
  simp only [Op.eqFields]
  rw [if_pos hn]
  simp only [Sem.run_bind, ha, hb, hr, Result.andThen_ok]
  cases r
  · rfl
  · rfl

def EqA (P : Program) (ρ : Inj) (d : Nat) : Prop := ∀ D, d ≤ D → ∀ t x y x' y' b, aEq P d t x y = some b → VRel ρ x x' → VRel ρ y y' → ∀ w, (Op.equalIn D t x' y').run P w = .ok b w
def EqB (P : Program) (ρ : Inj) (d : Nat) : Prop := ∀ D, d ≤ D → ∀ fs (xs ys xs' ys' : Array Value) b, aEqs P d fs xs.toList ys.toList = some b → ARel ρ xs xs' → ARel ρ ys ys' →
  ∀ w, (Op.eqFields D xs' ys' fs).run P w = .ok b w

set_option maxHeartbeats 1000000 in
theorem aEq_step {P : Program} {ρ : Inj} {d : Nat} (ih : EqA P ρ d ∧ EqB P ρ d) : EqA P ρ (d + 1) := by
  intro D hD t x y x' y' b h rx ry w
  obtain ⟨D, rfl⟩ : ∃ k, D = k + 1 := ⟨D - 1, by omega⟩
  unfold aEq at h
  split at h <;> rename_i hu
  · simp at h; subst h; cases rx <;> cases ry <;> simp [Op.equalIn, run_underlying hu]
  · cases rx; cases ry
    rename_i k a k' b'
    by_cases e : k = k'
    · subst e; simp at h; subst h; simp [Op.equalIn, run_underlying hu]
    · simp [e] at h
  · simp at h; subst h; cases rx; cases ry; simp [Op.equalIn, run_underlying hu, strEq_beq]
  · simp at h; subst h; cases rx <;> cases ry <;> simp [Op.equalIn, run_underlying hu]
  · simp at h; subst h; cases rx <;> cases ry <;> simp [Op.equalIn, run_underlying hu]
  · simp at h; subst h; cases rx <;> cases ry <;> simp [Op.equalIn, run_underlying hu]
  · simp at h; subst h; cases rx <;> cases ry <;> simp [Op.equalIn, run_underlying hu]
  · simp at h; subst h; cases rx <;> cases ry <;> simp [Op.equalIn, run_underlying hu]
  · simp at h; subst h; cases rx <;> cases ry <;> simp [Op.equalIn, run_underlying hu]
  · simp at h; subst h; cases rx <;> cases ry <;> simp [Op.equalIn, run_underlying hu]
  · simp at h; subst h; cases rx <;> cases ry <;> simp [Op.equalIn, run_underlying hu]
  · simp at h; subst h; cases rx <;> cases ry <;> simp [Op.equalIn, run_underlying hu]
  · simp at h; subst h; cases rx <;> cases ry <;> simp [Op.equalIn, run_underlying hu]
  · simp at h; subst h; cases rx <;> cases ry <;> simp [Op.equalIn, run_underlying hu]
  · simp at h; subst h; cases ry <;> cases rx <;> simp [Op.equalIn, run_underlying hu]
  · rename_i fs xs ys
    cases hst : P.stoodInHeld t with
    | true => simp [hst] at h
    | false =>
      simp only [hst, cond_false] at h
      cases rx with
      | agg _ xs' hx hrx =>
      cases ry with
      | agg _ ys' hy hry =>
      have hf : P.fieldsOf t = fs := by simp [Program.fieldsOf, hu]
      rw [run_equalIn_struct w D t xs' ys' (by rw [hf]; exact hu) hst, hf]
      exact ih.2 D (by omega) fs.toList xs ys xs' ys' b h ⟨hx, hrx⟩ ⟨hy, hry⟩ w
  · cases h

set_option maxHeartbeats 1000000 in
theorem aEqs_step {P : Program} {ρ : Inj} {d : Nat} (ih : EqA P ρ d ∧ EqB P ρ d) : EqB P ρ (d + 1) := by
  intro D hD fs xs ys xs' ys' b h rx ry w
  cases fs with
  | nil => simp [aEqs] at h; subst h; simp [Op.eqFields]
  | cons f fs =>
    unfold aEqs at h
    cases hn : f.name == "_" with
    | true => simp [hn] at h
    | false =>
      simp only [hn, cond_false] at h
      split at h
      · rename_i a b' ha hb
        obtain ⟨va, ra, va'⟩ := aPart_sound ha rx w
        obtain ⟨vb, rb, vb'⟩ := aPart_sound hb ry w
        have hne : f.name ≠ "_" := by simpa using hn
        split at h
        · rename_i he
          rw [run_eqFields_cons hne ra rb (ih.1 D (by omega) _ _ _ _ _ _ he va' vb' w), if_pos rfl]
          exact ih.2 D (by omega) fs xs ys xs' ys' b h rx ry w
        · rename_i he
          injection h with h; subst h
          rw [run_eqFields_cons hne ra rb (ih.1 D (by omega) _ _ _ _ _ _ he va' vb' w), if_neg (by decide)]
        · cases h
      · cases h


theorem aEq_sound {P : Program} {ρ : Inj} : ∀ (d : Nat), EqA P ρ d ∧ EqB P ρ d
  | 0 => ⟨fun D _ t x y x' y' b h => by simp [aEq] at h, fun D _ fs xs ys xs' ys' b h => by simp [aEqs] at h⟩
  | d + 1 => ⟨aEq_step (aEq_sound d), aEqs_step (aEq_sound d)⟩

end Go.Tw
