/- A second machine for Go's model: more operations that read no memory. Conditions: none. -/
import Derived.Test.YtdbnepjmepelcaaTwD
import Derived.Laws.Strings2
namespace Go.Tw

/-! Integers. -/
def maxN : IntKind → Nat
  | .i8 => 127
  | .i16 => 32767
  | .i32 => 2147483647
  | .i64 => 9223372036854775807
  | .u8 => 255
  | .u16 => 65535
  | .u32 => 4294967295
  | .u64 => 18446744073709551615

theorem wrap_small (k : IntKind) (m : Nat) (h : m ≤ maxN k) : k.wrap (m : Int) = m := by
  cases k <;> simp [maxN] at h <;> simp [IntKind.wrap, IntKind.bits, IntKind.signed] <;> omega

def wrapF (k : IntKind) (n : Int) : Int := match n with
  | .ofNat m => cond (Nat.ble m (maxN k)) (.ofNat m) (k.wrap (.ofNat m))
  | .negSucc m => k.wrap (.negSucc m)

theorem wrapF_eq (k : IntKind) (n : Int) : wrapF k n = k.wrap n := by
  cases n with
  | ofNat m =>
    cases h : Nat.ble m (maxN k) with
    | false => simp [wrapF, h]
    | true => simp only [wrapF, h, cond_true]; exact (wrap_small k m (Nat.le_of_ble_eq_true h)).symm
  | negSucc m => rfl

def isShift : BinOp → Bool
  | .shl | .shr => true
  | _ => false

def aShift (op : BinOp) (k : IntKind) (x y : Int) : Option Value :=
  match y with
  | .negSucc _ => none
  | .ofNat m => match op with
    | .shl => some (.int k (wrapF k (x * 2 ^ (min m k.bits))))
    | .shr => match x with
      | .ofNat xn => some (.int k (.ofNat (xn / 2 ^ (min m k.bits))))
      | .negSucc _ => some (.int k (x.fdiv (2 ^ (min m k.bits))))
    | _ => none

def aInt (op : BinOp) (k : IntKind) (a b : Int) : Option Value :=
  match op with
  | .add => some (.int k (wrapF k (a + b)))
  | .sub => some (.int k (wrapF k (a - b)))
  | .mul => some (.int k (wrapF k (a * b)))
  | .quo => match b with
    | .ofNat 0 => none
    | b => some (.int k (wrapF k (a.tdiv b)))
  | .rem => match b with
    | .ofNat 0 => none
    | b => some (.int k (a.tmod b))
  | .and => some (.int k (bits .and k a b))
  | .or => some (.int k (bits .or k a b))
  | .xor => some (.int k (bits .xor k a b))
  | .andNot => some (.int k (bits .andNot k a b))
  | .eql => some (.bool (a == b))
  | .neq => some (.bool (a != b))
  | .lss => some (.bool (decide (a < b)))
  | .leq => some (.bool (decide (a ≤ b)))
  | .gtr => some (.bool (decide (a > b)))
  | .geq => some (.bool (decide (a ≥ b)))
  | _ => none

theorem aShift_sound {op : BinOp} {k yk : IntKind} {x y : Int} {v : Value} (h : aShift op k x y = some v) : Op.shift op k x yk y = pure v := by
  unfold aShift at h
  split at h
  · cases h
  · rename_i m
    have h0 : ¬ (Int.ofNat m < 0) := by simp
    have e : min (Int.ofNat m).toNat k.bits = min m k.bits := rfl
    split at h
    · injection h with h; subst h; simp only [Op.shift]; rw [if_neg h0, wrapF_eq, e]
    · split at h
      · injection h with h; subst h
        simp only [Op.shift]; rw [if_neg h0, e]
        congr 2
        rw [Int.fdiv_eq_ediv_of_nonneg _ (by exact Int.le_of_lt (Int.pow_pos (by decide)))]
        have : (2 : Int) ^ (min m k.bits) = ((2 ^ (min m k.bits) : Nat) : Int) := by simp
        rw [this]
        simp only [Int.ofNat_eq_natCast, Int.natCast_ediv]
      · injection h with h; subst h; simp only [Op.shift]; rw [if_neg h0, e]
    · cases h

theorem aInt_sound {op : BinOp} {t : TypeId} {k : IntKind} {a b : Int} {v : Value} (hs : isShift op = false) (h : aInt op k a b = some v) :
    binOp op t (.int k a) (.int k b) = pure v := by
  cases op <;> simp [isShift] at hs <;> simp only [aInt] at h
  · injection h with h; subst h; simp [binOp, Op.intArith, wrapF_eq]
  · injection h with h; subst h; simp [binOp, Op.intArith, wrapF_eq]
  · injection h with h; subst h; simp [binOp, Op.intArith, wrapF_eq]
  · split at h
    · cases h
    · rename_i hb; injection h with h; subst h
      have : b ≠ 0 := fun e => hb (by rw [e]; rfl)
      simp [binOp, Op.intDiv, this, wrapF_eq]
  · split at h
    · cases h
    · rename_i hb; injection h with h; subst h
      have : b ≠ 0 := fun e => hb (by rw [e]; rfl)
      simp [binOp, Op.intDiv, this]
  · injection h with h; subst h; simp only [binOp_and]; exact intBits_and k a b
  · injection h with h; subst h; simp only [binOp_or]; exact intBits_or k a b
  · injection h with h; subst h; simp only [binOp_xor]; exact intBits_xor k a b
  · injection h with h; subst h; simp only [binOp_andNot]; exact intBits_andNot k a b
  · injection h with h; subst h; simp [binOp, Op.intCmp]
  · injection h with h; subst h; simp [binOp, Op.intCmp]
  · injection h with h; subst h; simp [binOp, Op.intCmp]
  · injection h with h; subst h; simp [binOp, Op.intCmp]
  · injection h with h; subst h; simp [binOp, Op.intCmp]
  · injection h with h; subst h; simp [binOp, Op.intCmp]

/-! Strings. -/
def bytesLt : List UInt8 → List UInt8 → Bool
  | _, [] => false
  | [], _ :: _ => true
  | a :: x, b :: y => cond (Nat.blt a.toNat b.toNat) true (cond (Nat.beq a.toNat b.toNat) (bytesLt x y) false)

theorem bytesLt_eq : ∀ (x y : List UInt8), bytesLt x y = Op.bytesLess x y
  | [], [] => rfl
  | [], b :: y => rfl
  | a :: x, [] => rfl
  | a :: x, b :: y => by
    simp only [bytesLt, Op.bytesLess, bytesLt_eq x y]
    by_cases e : a < b
    · have : Nat.blt a.toNat b.toNat = true := by simp [Nat.blt]; exact e
      simp [e, this]
    · have h1 : Nat.blt a.toNat b.toNat = false := by
        cases hb : Nat.blt a.toNat b.toNat
        · rfl
        · simp [Nat.blt] at hb; exact absurd hb e
      rw [h1]
      by_cases e2 : a = b
      · subst e2; simp [e]
      · have h2 : Nat.beq a.toNat b.toNat = false := by
          cases hb : Nat.beq a.toNat b.toNat
          · rfl
          · exact absurd (UInt8.toNat_inj.1 (Nat.eq_of_beq_eq_true hb)) e2
        simp [e, h2, e2]

def strAdd (a b : ByteArray) : ByteArray := ⟨⟨a.data.toList ++ b.data.toList⟩⟩
def strLen (a : ByteArray) : Nat := a.data.toList.length

theorem strAdd_eq (a b : ByteArray) : strAdd a b = a ++ b := by
  obtain ⟨⟨x⟩⟩ := a
  obtain ⟨⟨y⟩⟩ := b
  apply ByteArray.ext
  simp [strAdd]

theorem strLen_eq (a : ByteArray) : strLen a = a.size := by
  obtain ⟨⟨x⟩⟩ := a
  rfl

def aStr (op : BinOp) (a b : ByteArray) : Option Value :=
  match op with
  | .add => cond (Nat.ble (strLen a + strLen b) 9223372036854775807) (some (.string (strAdd a b))) none
  | .eql => some (.bool (strEq a b))
  | .neq => some (.bool (!strEq a b))
  | .lss => some (.bool (bytesLt a.data.toList b.data.toList))
  | .leq => some (.bool (bytesLt a.data.toList b.data.toList || strEq a b))
  | .gtr => some (.bool (!(bytesLt a.data.toList b.data.toList || strEq a b)))
  | .geq => some (.bool (!bytesLt a.data.toList b.data.toList))
  | _ => none

theorem aStr_sound {op : BinOp} {t : TypeId} {a b : ByteArray} {v : Value} (h : aStr op a b = some v) : binOp op t (.string a) (.string b) = pure v := by
  have hl : Op.bytesLess a.toList b.toList = bytesLt a.data.toList b.data.toList := by rw [bytesLt_eq, ByteArray.toList_eq, ByteArray.toList_eq]
  have he : (a.toList == b.toList) = strEq a b := (strEq_eq a b).symm
  cases op <;> simp only [aStr] at h
  case add =>
    cases hb : Nat.ble (strLen a + strLen b) 9223372036854775807 with
    | false => simp [hb] at h
    | true =>
      simp only [hb, cond_true] at h
      injection h with h; subst h
      have := Nat.le_of_ble_eq_true hb
      rw [strLen_eq, strLen_eq] at this
      simp only [binOp, Op.stringOp]
      rw [if_neg, strAdd_eq]
      rw [IntKind.max_i64]
      omega
  all_goals first | (injection h with h; subst h; simp only [binOp, Op.stringOp, hl, he]) | cases h

/-! Operators of two operands. -/
def eqOps (op : BinOp) (b : Option Bool) : Option Value :=
  match op, b with
  | .eql, some b => some (.bool b)
  | .neq, some b => some (.bool (!b))
  | _, _ => none

def isConst : Operand → Bool
  | .const _ => true
  | _ => false

def aBin (P : Program) (op : BinOp) (t : TypeId) (xo yo : Operand) (x y : Value) : Option Value :=
  match x, y with
  | .int k a, .int k' b => match op with
    | .shl => aShift .shl k a b
    | .shr => aShift .shr k a b
    | op => cond (decide (k = k')) (aInt op k a b) none
  | .string a, .string b => aStr op a b
  | .nilIface, .nilIface => cond (isConst xo || isConst yo) (eqOps op (aEq P 200 t x y)) none
  | .agg _, .agg _ => cond (P.eqGuardType P.depth t) none (eqOps op (aEq P 200 t x y))
  | .int _ _, _ => none
  | .string _, _ => none
  | .float _ _, _ => none
  | .complex _ _ _, _ => none
  | .iface _ _, .iface _ _ => none
  | x, y => eqOps op (aEq P 200 t x y)

/-! A pointer against itself. -/
def samePtr (op : BinOp) (x y : Value) : Option Value :=
  match x, y with
  | .pointer (some a), .pointer (some b) => cond (Nat.beq a.block b.block && a.spot.isNone && b.spot.isNone) (eqOps op (some (Nat.beq a.off b.off))) none
  | _, _ => none

theorem binOp_eq_of {P : Program} {t : TypeId} {x y : Value} {w : World} {b : Bool} (hx : ∀ k n, x ≠ .int k n) (hf : ∀ k n, x ≠ .float k n) (hc : ∀ k n m, x ≠ .complex k n m)
    (hs : ∀ a, x ≠ .string a) (h : (Op.equal t x y).run P w = .ok b w) :
    (binOp .eql t x y).run P w = .ok (.bool b) w ∧ (binOp .neq t x y).run P w = .ok (.bool (!b)) w := by
  constructor <;> cases x <;> simp [binOp] <;> first | (exact absurd rfl (hx _ _)) | (exact absurd rfl (hf _ _)) | (exact absurd rfl (hc _ _ _)) | (exact absurd rfl (hs _)) | simp [h]

theorem eqOps_some {op : BinOp} {b : Option Bool} {v : Value} (h : eqOps op b = some v) : ∃ c, b = some c ∧ ((op = .eql ∧ v = .bool c) ∨ (op = .neq ∧ v = .bool (!c))) := by
  unfold eqOps at h
  split at h
  · injection h with h; exact ⟨_, rfl, .inl ⟨rfl, h.symm⟩⟩
  · injection h with h; exact ⟨_, rfl, .inr ⟨rfl, h.symm⟩⟩
  · cases h

theorem eq_case {P : Program} {ρ : Inj} {op : BinOp} {t : TypeId} {x y x' y' : Value} {v : Value} {w : World} (h : eqOps op (aEq P 200 t x y) = some v)
    (hx : ∀ k n, x' ≠ .int k n) (hf : ∀ k n, x' ≠ .float k n) (hc : ∀ k n m, x' ≠ .complex k n m) (hs : ∀ a, x' ≠ .string a)
    (rx : VRel ρ x x') (ry : VRel ρ y y') : (binOp op t x' y').run P w = .ok v w ∧ ∃ b, v = .bool b := by
  obtain ⟨c, hc', h2⟩ := eqOps_some h
  have he : (Op.equal t x' y').run P w = .ok c w := (aEq_sound 200).1 Op.maxDepth (by decide) t x y x' y' c hc' rx ry w
  have hb := binOp_eq_of hx hf hc hs he
  rcases h2 with ⟨rfl, rfl⟩ | ⟨rfl, rfl⟩
  · exact ⟨hb.1, _, rfl⟩
  · exact ⟨hb.2, _, rfl⟩

end Go.Tw
