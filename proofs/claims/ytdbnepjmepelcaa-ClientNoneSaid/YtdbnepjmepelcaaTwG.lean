/- A second machine for Go's model: parts of values, slices of values, addresses. Conditions: none. -/
import Derived.Test.YtdbnepjmepelcaaTwF
namespace Go.Tw

def aUn (op : UnOp) (x : Value) : Option Value :=
  match op, x with
  | .not, .bool b => some (.bool (!b))
  | .neg, .int k n => some (.int k (wrapF k (0 - n)))
  | .xor, .int k n => some (.int k (bits .xor k (if k.signed then -1 else k.max) n))
  | _, _ => none

theorem aUn_sound {ρ : Inj} {op : UnOp} {x x' v : Value} (h : aUn op x = some v) (rx : VRel ρ x x') : Op.unary op x' = pure v ∧ plain v = true := by
  unfold aUn at h
  split at h
  · cases h; cases rx; exact ⟨rfl, rfl⟩
  · cases h; cases rx; exact ⟨by simp [Op.unary, Op.intArith, wrapF_eq], rfl⟩
  · cases h; cases rx; exact ⟨rfl, rfl⟩
  · cases h

def aConv (P : Program) (src dst : TypeId) (x : Value) : Option Value :=
  match P.underlying src, P.underlying dst, x with
  | some _, some (.int k), .int _ n => some (.int k (wrapF k n))
  | some _, some .string, .string s => some (.string s)
  | _, _, _ => none

theorem aConv_sound {P : Program} {ρ : Inj} {src dst : TypeId} {x x' v : Value} (h : aConv P src dst x = some v) (rx : VRel ρ x x') (w : World) :
    (convert src dst x').run P w = .ok v w ∧ plain v = true := by
  unfold aConv at h
  split at h
  · rename_i h1 h2
    cases h; cases rx; exact ⟨by simp [convert, run_underlying h1, run_underlying h2, Conv.intToInt, wrapF_eq], rfl⟩
  · rename_i h1 h2
    cases h; cases rx; exact ⟨by simp [convert, run_underlying h1, run_underlying h2], rfl⟩
  · cases h

/-- An operand that is a bound. -/
def bnd (ev : Operand → Option Value) (d : Nat) (x : Option Operand) : Option Nat :=
  match x with
  | none => some d
  | some x => match ev x with
    | some (.int _ (.ofNat n)) => some n
    | _ => none

theorem bnd_sound {ρ : Inj} {ev : Operand → Option Value} {ec : Operand → Value} (he : ∀ x v, ev x = some v → VRel ρ v (ec x)) {d : Nat} {x : Option Operand} {n : Nat}
    (h : bnd ev d x = some n) : (x.map ec = none ∧ n = d) ∨ ∃ k, x.map ec = some (.int k n) := by
  unfold bnd at h
  split at h
  · cases h; exact .inl ⟨rfl, rfl⟩
  · rename_i x
    split at h
    · rename_i k n hx
      cases h
      have := he x _ hx
      right
      refine ⟨k, ?_⟩
      simp only [Option.map_some]
      generalize ec x = y at *
      cases this
      rfl
    · cases h

theorem sliceBounds_run {P : Program} {b : Bool} {len cap l h : Nat} {lo hi : Option Value} (hl : (lo = none ∧ l = 0) ∨ ∃ k, lo = some (.int k l))
    (hh : (hi = none ∧ h = len) ∨ ∃ k, hi = some (.int k h)) (h1 : l ≤ h) (h2 : h ≤ cap) (w : World) :
    (Instr.sliceBounds b len cap lo hi none).run P w = .ok (l, h, cap) w := by
  have hb : ∀ (k : IntKind) (n m : Nat) (c : BoundsCode), n ≤ m → (Instr.sliceBound (.int k (n : Int)) m c).run P w = .ok n w := fun k n m c hnm => by
    rw [run_sliceBound w k n m c (by omega) (by omega)]; simp
  rcases hl with ⟨rfl, rfl⟩ | ⟨k, rfl⟩ <;> rcases hh with ⟨rfl, rfl⟩ | ⟨k', rfl⟩ <;> simp [Instr.sliceBounds, hb, h1, h2]

def strCut (s : ByteArray) (l h : Nat) : ByteArray := ⟨⟨(s.data.toList.drop l).take (h - l)⟩⟩

theorem strCut_eq (s : ByteArray) (l h : Nat) : strCut s l h = s.extract l h := by
  obtain ⟨⟨x⟩⟩ := s
  rw [ByteArray.extract_mk]
  rfl

def aSlice (P : Program) (ev : Operand → Option Value) (t : TypeId) (x : Operand) (lo hi : Option Operand) : Option Value :=
  match P.underlying t, ev x with
  | some .string, some (.string s) => match bnd ev (strLen s) hi, bnd ev 0 lo with
    | some h, some l => cond (Nat.ble l h && Nat.ble h (strLen s)) (some (.string (strCut s l h))) none
    | _, _ => none
  | some (.slice e), some (.slice none n k) => match bnd ev n hi, bnd ev 0 lo, szQ P e with
    | some h, some l, some _ => cond (Nat.ble l h && Nat.ble h k) (some (.slice none (h - l) (k - l))) none
    | _, _, _ => none
  | some (.slice e), some (.slice (some ⟨b, o, none⟩) n k) => match bnd ev n hi, bnd ev 0 lo, szQ P e with
    | some h, some l, some sz => cond (Nat.ble l h)
        (cond (Nat.ble ucap k)
          (cond (Nat.ble h n)
            (cond (Nat.beq l 0) (some (.slice (some ⟨b, o, none⟩) h k))
              (cond (Nat.blt l n) (cond (Nat.beq k ucap || Nat.beq (k - ucap) sz) (some (.slice (some ⟨b, o + l * sz, none⟩) (h - l) k)) none)
                (some (.slice (some ⟨b, o, some 0⟩) 0 ucap)))) none)
          (cond (Nat.ble h k) (some (.slice (some ⟨b, cond (Nat.beq k l) o (o + l * sz), none⟩) (h - l) (k - l))) none)) none
    | _, _, _ => none
  | some (.array n e), some (.pointer (some ⟨b, o, none⟩)) => match bnd ev n hi, bnd ev 0 lo, szQ P e with
    | some h, some l, some sz => cond (Nat.ble l h && Nat.ble h n && Nat.blt n ucap)
        (some (.slice (some ⟨b, cond (Nat.beq n l) o (o + l * sz), none⟩) (h - l) (n - l))) none
    | _, _, _ => none
  | _, _ => none

theorem cond_some {α : Type} {b : Bool} {x : Option α} {v : α} (h : cond b x none = some v) : b = true ∧ x = some v := by
  cases b
  · cases h
  · exact ⟨rfl, h⟩

theorem and_ble {a b c d : Nat} (h : (Nat.ble a b && Nat.ble c d) = true) : a ≤ b ∧ c ≤ d := by
  simp only [Bool.and_eq_true] at h
  exact ⟨Nat.le_of_ble_eq_true h.1, Nat.le_of_ble_eq_true h.2⟩

theorem slice_addr (c d o l sz k : Nat) : (if k = l then (⟨c, d + o, none⟩ : Addr) else (⟨c, d + o, none⟩ : Addr).add (l * sz)) = ⟨c, d + cond (Nat.beq k l) o (o + l * sz), none⟩ := by
  rw [Addr.add_none]
  by_cases e : k = l
  · subst e; simp
  · have : Nat.beq k l = false := by
      cases hb : Nat.beq k l
      · rfl
      · exact absurd (Nat.eq_of_beq_eq_true hb) e
    simp [e, this, Nat.add_assoc]

set_option maxHeartbeats 1000000 in
theorem aSlice_sound {P : Program} {ρ : Inj} {ev : Operand → Option Value} {ec : Operand → Value} (he : ∀ x v, ev x = some v → VRel ρ v (ec x)) {t : TypeId} {x : Operand}
    {lo hi : Option Operand} {v : Value} (h : aSlice P ev t x lo hi = some v) (w : World) :
    ∃ v', (Instr.sliceAt t (ec x) (lo.map ec) (hi.map ec) none).run P w = .ok v' w ∧ VRel ρ v v' := by
  unfold aSlice at h
  split at h
  · rename_i s hu hx
    split at h
    · rename_i hn ln hh hl
      obtain ⟨hb, h⟩ := cond_some h
      obtain ⟨h1, h2⟩ := and_ble hb
      cases h
      have rx := he x _ hx
      generalize ec x = y at rx ⊢
      cases rx
      rw [strLen_eq] at h2 hh
      refine ⟨_, ?_, .string _⟩
      rw [run_sliceAt_string w t _ _ _ _ hu]
      simp only [Instr.slice, Sem.run_bind, run_underlying hu, Result.andThen_ok]
      simp only [Option.isSome_none, Bool.false_eq_true, if_false]
      have := sliceBounds_run (P := P) (b := false) (cap := s.size) (bnd_sound he hl) (bnd_sound he hh) h1 h2 w
      simp [this, strCut_eq]
    · cases h
  · rename_i e n k hu hx
    split at h
    · rename_i hn ln sz hh hl hsz
      obtain ⟨hb, h⟩ := cond_some h
      obtain ⟨h1, h2⟩ := and_ble hb
      cases h
      have rx := he x _ hx
      generalize ec x = y at rx ⊢
      cases rx
      have hu' : P.underlying t = some (.slice (P.elem t)) := by simp [Program.elem, hu]
      rw [run_sliceAt_slice w t _ _ _ _ hu']
      have := sliceBounds_run (P := P) (b := true) (cap := k) (bnd_sound he hl) (bnd_sound he hh) h1 h2 w
      refine ⟨_, ?_, .sliceNil _ _⟩
      simp [Instr.slice, run_underlying hu, this, run_sizeOf w hsz]
    · cases h
  · rename_i e b o n k hu hx
    split at h
    · rename_i hn ln sz hh hl hsz
      obtain ⟨hb, h⟩ := cond_some h
      have h1 := Nat.le_of_ble_eq_true hb
      have rx := he x _ hx
      generalize ec x = y at rx ⊢
      have hu' : P.underlying t = some (.slice (P.elem t)) := by simp [Program.elem, hu]
      rw [run_sliceAt_slice w t _ _ _ _ hu']
      cases rx with
      | wild a a' k' hs => simp at hs
      | slice b o c d n k k' hρ hk =>
      have key : ∀ hle : hn ≤ k', (Instr.slice t (.slice (some ⟨c, d.1 + o, none⟩) n k') (lo.map ec) (hi.map ec) none).run P w =
          .ok (.slice (some ⟨c, d.1 + cond (Nat.beq k' ln) o (o + ln * sz), none⟩) (hn - ln) (k' - ln)) w := by
        intro hle
        have := sliceBounds_run (P := P) (b := true) (cap := k') (bnd_sound he hl) (bnd_sound he hh) h1 hle w
        simp only [Instr.slice, Sem.run_bind, run_underlying hu, Result.andThen_ok, this, run_sizeOf w hsz]
        rw [← slice_addr]
        simp only [Option.map_some, Sem.run_pure]
        congr 3
        by_cases e : k' = ln <;> simp [e]
      cases hku : Nat.ble ucap k with
      | true =>
        have hke := Nat.le_of_ble_eq_true hku
        simp only [hku, cond_true] at h
        obtain ⟨hb2, h⟩ := cond_some h
        have h2 := Nat.le_of_ble_eq_true hb2
        obtain ⟨_, hnk, hcap⟩ := hk.resolve_left (fun e => by omega)
        have hr := key (by omega)
        cases hl0 : Nat.beq ln 0 with
        | true =>
          simp only [hl0, cond_true] at h
          cases h
          have e0 := Nat.eq_of_beq_eq_true hl0
          subst e0
          refine ⟨_, hr, ?_⟩
          have e1 : cond (Nat.beq k' 0) o (o + 0 * sz) = o := by cases Nat.beq k' 0 <;> simp
          rw [e1]
          exact .slice _ _ _ _ _ _ _ hρ (.inr ⟨hke, by omega, by simpa using hcap⟩)
        | false =>
          simp only [hl0, cond_false] at h
          cases hln : Nat.blt ln n with
          | true =>
            simp only [hln, cond_true] at h
            obtain ⟨hb3, h⟩ := cond_some h
            cases h
            have h3 : ln < n := Nat.le_of_ble_eq_true hln
            have e1 : Nat.beq k' ln = false := by
              cases hb' : Nat.beq k' ln
              · rfl
              · have := Nat.eq_of_beq_eq_true hb'; omega
            refine ⟨_, hr, ?_⟩
            rw [e1]
            refine .slice _ _ _ _ _ _ _ hρ (.inr ⟨hke, by omega, ?_⟩)
            rcases hcap with hcap | hcap
            · exact .inl hcap
            · rw [Bool.or_eq_true] at hb3
              rcases hb3 with hb3 | hb3
              · exact .inl (Nat.eq_of_beq_eq_true hb3)
              · right
                have hs := Nat.eq_of_beq_eq_true hb3
                rw [hs] at hcap ⊢
                have h4 : ln ≤ k' := by omega
                have h5 : ln + (k' - ln) = k' := Nat.add_sub_cancel' h4
                have h6 : ln * sz + (k' - ln) * sz = k' * sz := by rw [← Nat.add_mul, h5]
                show d.1 + (o + ln * sz) + (k' - ln) * sz ≤ d.2
                rw [← h6] at hcap
                omega
          | false =>
            simp only [hln, cond_false] at h
            cases h
            have h3 : ¬ ln < n := fun hh => by
              have : Nat.blt ln n = true := by simp [Nat.blt]; omega
              rw [this] at hln; cases hln
            have : hn - ln = 0 := by omega
            refine ⟨_, hr, ?_⟩
            rw [this]
            exact .wild _ _ _ rfl
      | false =>
        have hke : k < ucap := by
          rcases Nat.lt_or_ge k ucap with hh | hh
          · exact hh
          · rw [Nat.ble_eq_true_of_le hh] at hku; cases hku
        simp only [hku, cond_false] at h
        obtain ⟨hb2, h⟩ := cond_some h
        have h2 := Nat.le_of_ble_eq_true hb2
        cases h
        obtain ⟨hk1, hk2⟩ := hk.resolve_right (fun e => by omega)
        subst hk2
        exact ⟨_, key h2, .slice _ _ _ _ _ _ _ hρ (.inl ⟨by omega, rfl⟩)⟩
    · cases h
  · rename_i n e b o hu hx
    split at h
    · rename_i hn ln sz hh hl hsz
      obtain ⟨hb, h⟩ := cond_some h
      rw [Bool.and_eq_true] at hb
      obtain ⟨h1, h2⟩ := and_ble hb.1
      have h3 : n < ucap := Nat.le_of_ble_eq_true hb.2
      cases h
      have rx := he x _ hx
      generalize ec x = y at rx ⊢
      cases rx with
      | ptr b o c d hρ =>
      have := sliceBounds_run (P := P) (b := false) (cap := n) (bnd_sound he hl) (bnd_sound he hh) h1 h2 w
      refine ⟨.slice (some ⟨c, d.1 + cond (Nat.beq n ln) o (o + ln * sz), none⟩) (hn - ln) (n - ln), ?_, .slice _ _ _ _ _ _ _ hρ (.inl ⟨by omega, rfl⟩)⟩
      simp only [Instr.sliceAt, Sem.run_bind, run_underlying hu, Result.andThen_ok, Instr.sureAddr, Sem.run_pure, this, run_sizeOf w hsz]
      rw [← slice_addr]
    · cases h
  · cases h


def aFieldAddr (P : Program) (s : TypeId) (x : Value) (f : Nat) : Option Value :=
  match fieldQ P s f, x with
  | some fd, .pointer (some ⟨b, o, none⟩) => match szQ P fd.type with
    | some (_ + 1) => some (.pointer (some ⟨b, o + fd.offset, none⟩))
    | _ => none
  | _, _ => none

theorem fieldQ_some {P : Program} {s : TypeId} {f : Nat} {fd : Field} (h : fieldQ P s f = some fd) : ∃ fs, P.underlying s = some (.struct fs) ∧ fs[f]? = some fd := by
  unfold fieldQ at h
  split at h
  · rename_i fs hu; exact ⟨fs, hu, h⟩
  · cases h

theorem aFieldAddr_sound {P : Program} {ρ : Inj} {s : TypeId} {x x' v : Value} {f : Nat} (h : aFieldAddr P s x f = some v) (rx : VRel ρ x x') (w : World) :
    ∃ v', (Instr.fieldAt s x' f).run P w = .ok v' w ∧ VRel ρ v v' := by
  unfold aFieldAddr at h
  split at h
  · rename_i fd b o hf
    split at h
    · rename_i n hn
      cases h
      obtain ⟨fs, hu, hfs⟩ := fieldQ_some hf
      cases rx with
      | ptr b o c d hρ =>
      refine ⟨.pointer (some ⟨c, d.1 + (o + fd.offset), none⟩), ?_, .ptr _ _ _ _ hρ⟩
      simp [Instr.fieldAt, run_underlying hu, hfs, Instr.sureAddr, fieldPlace, run_sizeOf w hn, Addr.add_none, Nat.add_assoc]
    · cases h
  · cases h

/-- A number that is an index. -/
def aIdx (x : Value) : Option Nat := match x with
  | .int _ (.ofNat n) => some n
  | _ => none

theorem aIdx_sound {ρ : Inj} {x x' : Value} {n : Nat} (h : aIdx x = some n) (rx : VRel ρ x x') : ∃ k, x' = .int k n := by
  unfold aIdx at h
  split at h
  · cases h; cases rx; exact ⟨_, rfl⟩
  · cases h

def aIndexAddr (P : Program) (t : TypeId) (x i : Value) : Option Value :=
  match P.underlying t, x, aIdx i with
  | some (.array n e), .pointer (some ⟨b, o, none⟩), some j => match szQ P e with
    | some sz => cond (Nat.blt j n) (some (.pointer (some ⟨b, o + j * sz, none⟩))) none
    | none => none
  | some (.slice e), .slice (some ⟨b, o, none⟩) n _, some j => match szQ P e with
    | some sz => cond (Nat.blt j n) (some (.pointer (some ⟨b, o + j * sz, none⟩))) none
    | none => none
  | _, _, _ => none

theorem blt_lt {a b : Nat} (h : Nat.blt a b = true) : a < b := Nat.le_of_ble_eq_true h

theorem aIndexAddr_sound {P : Program} {ρ : Inj} {t : TypeId} {x x' i i' v : Value} (h : aIndexAddr P t x i = some v) (rx : VRel ρ x x') (ri : VRel ρ i i') (w : World) :
    ∃ v', (Instr.indexAt t x' i').run P w = .ok v' w ∧ VRel ρ v v' := by
  unfold aIndexAddr at h
  split at h
  · rename_i n e b o j hu hj
    obtain ⟨k, rfl⟩ := aIdx_sound hj ri
    split at h
    · rename_i sz hsz
      obtain ⟨hb, h⟩ := cond_some h
      have hlt := blt_lt hb
      cases h
      cases rx with
      | ptr b o c d hρ =>
      refine ⟨.pointer (some ⟨c, d.1 + (o + j * sz), none⟩), ?_, .ptr _ _ _ _ hρ⟩
      simp [Instr.indexAt, asIntOf, run_underlying hu, Instr.sureAddr, run_sizeOf w hsz, Addr.add_none, Nat.add_assoc]
      intro hh; omega
    · cases h
  · rename_i e b o n k0 j hu hj
    obtain ⟨k, rfl⟩ := aIdx_sound hj ri
    split at h
    · rename_i sz hsz
      obtain ⟨hb, h⟩ := cond_some h
      have hlt := blt_lt hb
      cases h
      cases rx with
      | wild a a' k' hs => simp at hs
      | slice b o c d n k k' hρ hk =>
      refine ⟨.pointer (some ⟨c, d.1 + (o + j * sz), none⟩), ?_, .ptr _ _ _ _ hρ⟩
      simp [Instr.indexAt, asIntOf, run_underlying hu, run_sizeOf w hsz, Addr.add_none, Nat.add_assoc]
      intro hh; omega
    · cases h
  · cases h

def aIndex (P : Program) (t : TypeId) (x i : Value) : Option Value :=
  match P.underlying t, x, aIdx i with
  | some .string, .string s, some j => match s.data.toList[j]? with
    | some b => some (.int .u8 b.toNat)
    | none => none
  | some (.array n e), .agg cs, some j => match szQ P e with
    | some sz => cond (Nat.blt j n) (aPart P e cs.toList (j * sz)) none
    | none => none
  | _, _, _ => none

theorem str_get (s : ByteArray) (j : Nat) : s[j]? = s.data.toList[j]? := by
  obtain ⟨⟨x⟩⟩ := s
  by_cases h : j < x.length
  · have h' : j < (ByteArray.mk ⟨x⟩).size := h
    rw [getElem?_pos (ByteArray.mk ⟨x⟩) j h']
    simp only
    rw [List.getElem?_eq_getElem h]
    rfl
  · have h' : ¬ j < (ByteArray.mk ⟨x⟩).size := h
    rw [getElem?_neg (ByteArray.mk ⟨x⟩) j h']
    simp only
    rw [List.getElem?_eq_none (by omega)]

theorem aIndex_sound {P : Program} {ρ : Inj} {t : TypeId} {x x' i i' v : Value} (h : aIndex P t x i = some v) (rx : VRel ρ x x') (ri : VRel ρ i i') (w : World) :
    ∃ v', (Instr.index t x' i').run P w = .ok v' w ∧ VRel ρ v v' := by
  unfold aIndex at h
  split at h
  · rename_i s j hu hj
    obtain ⟨k, rfl⟩ := aIdx_sound hj ri
    split at h
    · rename_i b hb
      cases h
      cases rx
      refine ⟨_, ?_, .int _ _⟩
      rw [← str_get] at hb
      simp [Instr.index, asIntOf, run_underlying hu, hb]
    · cases h
  · rename_i n e cs j hu hj
    obtain ⟨k, rfl⟩ := aIdx_sound hj ri
    split at h
    · rename_i sz hsz
      obtain ⟨hb, h⟩ := cond_some h
      have hlt := blt_lt hb
      cases rx with
      | agg _ cs' hx hrx =>
      obtain ⟨v', h1, h2⟩ := aPart_sound (P := P) h ⟨hx, hrx⟩ w
      exact ⟨v', by simp [Instr.index, asIntOf, run_underlying hu, run_sizeOf w hsz, h1]; intro hh; omega, h2⟩
    · cases h
  · cases h

def aField (P : Program) (t : TypeId) (x : Value) (f : Nat) : Option Value :=
  match fieldQ P t f, x with
  | some fd, .agg cs => aPart P fd.type cs.toList fd.offset
  | _, _ => none

theorem aField_sound {P : Program} {ρ : Inj} {t : TypeId} {x x' v : Value} {f : Nat} (h : aField P t x f = some v) (rx : VRel ρ x x') (w : World) :
    ∃ v', (Instr.field t x' f).run P w = .ok v' w ∧ VRel ρ v v' := by
  unfold aField at h
  split at h
  · rename_i fd cs hf
    obtain ⟨fs, hu, hfs⟩ := fieldQ_some hf
    cases rx with
    | agg _ cs' hx hrx =>
    obtain ⟨v', h1, h2⟩ := aPart_sound (P := P) h ⟨hx, hrx⟩ w
    exact ⟨v', by simp [Instr.field, run_underlying hu, hfs, asAgg, h1], h2⟩
  · cases h

end Go.Tw
