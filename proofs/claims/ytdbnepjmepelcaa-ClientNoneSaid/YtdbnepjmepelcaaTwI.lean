/- A second machine for Go's model: operations that make one new block. Conditions: none. -/
import Derived.Test.YtdbnepjmepelcaaTwH
namespace Go.Tw

/-- So many zero values in a row. -/
def zrow : Nat → List Value → List Value
  | 0, _ => []
  | n + 1, z => z ++ zrow n z

theorem zrow_length (n : Nat) (z : List Value) : (zrow n z).length = n * z.length := by
  induction n with
  | zero => simp [zrow]
  | succ n ih => simp [zrow, ih, Nat.succ_mul, Nat.add_comm]

theorem zrow_get : ∀ (n : Nat) (z : List Value) (i : Nat), i < n * z.length → (zrow n z)[i]? = z[i % z.length]?
  | 0, z, i, h => by simp at h
  | n + 1, z, i, h => by
    simp only [zrow]
    by_cases hi : i < z.length
    · rw [List.getElem?_append_left hi, Nat.mod_eq_of_lt hi]
    · have h2 : i - z.length < n * z.length := by rw [Nat.succ_mul] at h; omega
      rw [List.getElem?_append_right (by omega), zrow_get n z (i - z.length) h2]
      congr 1
      exact (Nat.mod_eq_sub_mod (by omega)).symm

theorem zrow_eq (n : Nat) (z : Array Value) : ((Array.range (n * z.size)).map fun i => z[i % z.size]!) = (zrow n z.toList).toArray := by
  apply Array.ext_getElem?
  intro i
  by_cases h : i < n * z.size
  · have hz : 0 < z.size := by
      rcases Nat.eq_zero_or_pos z.size with hz | hz
      · rw [hz] at h; simp at h
      · exact hz
    have hm : i % z.size < z.size := Nat.mod_lt _ hz
    simp only [List.getElem?_toArray]
    rw [zrow_get n z.toList i (by simpa using h)]
    simp [h, hm]
  · rw [Array.getElem?_eq_none (by simp; omega), Array.getElem?_eq_none (by simp [zrow_length]; omega)]

theorem plainAll_append : ∀ {x y : List Value}, plainAll x = true → plainAll y = true → plainAll (x ++ y) = true
  | [], _, _, hy => hy
  | _ :: _, _, hx, hy => by
    simp [plainAll] at hx ⊢
    exact ⟨hx.1, plainAll_append hx.2 hy⟩

theorem plainAll_zrow {z : List Value} (h : plainAll z = true) : ∀ n, plainAll (zrow n z) = true
  | 0 => rfl
  | n + 1 => plainAll_append h (plainAll_zrow h n)

theorem flat_cells {v : Value} (h : flat v = true) : plainAll v.cells.toList = true := by
  cases v <;> first | exact h | (simp [Value.cells, plainAll]; exact h)

theorem ORel.row {ρ : Inj} {cs : List Value} {arr : Array Value} {e : TypeId} (h : ARel ρ cs.toArray arr) : ORel ρ (.cells .rw .exact cs e) (0, 0) (some (.cells arr e (0, 0))) := by
  refine .cells _ _ _ _ _ _ _ _ ?_ ?_ ?_ (fun h => by cases h)
  · intro i v hv
    obtain ⟨v', h1, h2⟩ := h.get (i := i) (u := v) (by simpa using hv)
    exact ⟨v', by simpa using h1, h2⟩
  · intro _ i _; simp
  · intro _
    exact ⟨rfl, by have := h.1; simp at this; omega⟩

def MakeV (P : Program) (ρ : Inj) (s : Sem Value) (obj : AObj) (f : Nat → Value) (w : World) : Prop :=
  ∃ x v' w', s.run P w = .ok v' w' ∧ HeapIs w w' (w.heap.push x) ∧
    ∀ ρ' b, (∀ b y, ρ b = some y → ρ' b = some y) → ρ' b = some (w.heap.size, (0, 0)) → ORel ρ' obj (0, 0) (some x) ∧ VRel ρ' (f b) v'

theorem ptr_zero {ρ' : Inj} {b c : Nat} (hb : ρ' b = some (c, (0, 0))) : VRel ρ' (.pointer (some ⟨b, 0, none⟩)) (.pointer (some ⟨c, 0, none⟩)) := by
  have := VRel.ptr (ρ := ρ') b 0 c (0, 0) hb
  simpa using this

theorem slice_zero {ρ' : Inj} {b c n k k' : Nat} (hb : ρ' b = some (c, (0, 0))) (hk : (k < ucap ∧ k = k') ∨ (k = ucap ∧ n ≤ k')) :
    VRel ρ' (.slice (some ⟨b, 0, none⟩) n k) (.slice (some ⟨c, 0, none⟩) n k') := by
  have := VRel.slice (ρ := ρ') b 0 c (0, 0) n k k' hb (hk.imp id fun (e : k = ucap ∧ n ≤ k') => ⟨Nat.le_of_eq e.1.symm, e.2, .inl e.1⟩)
  simpa using this

theorem newRow_run {P : Program} {w : World} {e : TypeId} {c : Array Value} : (newRow e c).run P w = .ok ⟨w.heap.size, 0, none⟩ { w with heap := w.heap.push (.cells c e) } := by
  simp [newRow]

theorem appendCap_run {P : Program} {w : World} (n o : Nat) (e : TypeId) : ∃ k, n ≤ k ∧ (choose (.appendCap n o e)).run P w = .ok k { w with drawn := w.drawn + 1 } := by
  refine ⟨_, ?_, by simp only [run_choose, Question.forced, Bool.false_eq_true, if_false]; rfl⟩
  exact Nat.le_add_right _ _

abbrev Made := Option (AObj × (Nat → Value))

def mkAlloc (P : Program) (e : TypeId) : Made := match zeroQ P e with
  | some z => some (.cells .rw .exact z.cells.toList e, fun b => .pointer (some ⟨b, 0, none⟩))
  | none => none

theorem mkAlloc_sound {P : Program} {ρ : Inj} {e : TypeId} {obj : AObj} {f : Nat → Value} (h : mkAlloc P e = some (obj, f)) (w : World) :
    MakeV P ρ (Instr.alloc e true (.tuple #[])) obj f w := by
  unfold mkAlloc at h
  split at h
  · rename_i z hz
    cases h
    obtain ⟨hzr, hzf⟩ := run_zeroValue w hz
    refine ⟨.cells z.cells e, .pointer (some ⟨w.heap.size, 0, none⟩), { w with heap := w.heap.push (.cells z.cells e) }, ?_, rfl,
      fun ρ' b hm hb => ⟨ORel.row (ARel.self_of_flat hzf), ptr_zero hb⟩⟩
    simp only [Instr.alloc, Sem.run_bind, hzr, Result.andThen_ok, newVar, newRow_run, Sem.run_pure]
  · cases h

def mkBox (e : TypeId) (v : Value) : Made := some (.cells .rw .exact v.cells.toList e, fun b => .pointer (some ⟨b, 0, none⟩))

theorem mkBox_sound {P : Program} {ρ : Inj} {e : TypeId} {v v' : Value} {obj : AObj} {f : Nat → Value} (h : mkBox e v = some (obj, f)) (rv : VRel ρ v v') (w : World) :
    MakeV P ρ (Instr.box e v') obj f w := by
  cases h
  refine ⟨.cells v'.cells e, .pointer (some ⟨w.heap.size, 0, none⟩), { w with heap := w.heap.push (.cells v'.cells e) }, ?_, rfl,
    fun ρ' b hm hb => ⟨ORel.row ?_, ptr_zero hb⟩⟩
  · simp only [Instr.box, newVar, Sem.run_bind, newRow_run, Result.andThen_ok, Sem.run_pure]
  · have := ARel.of_cells (rv.mono hm)
    simpa using this

def mkRow (P : Program) (t : TypeId) (len : Nat) (l : List (Nat × Value)) : Made := match P.underlying t with
  | some (.slice e) => match szQ P e, zeroQ P e with
    | some sz, some z => cond (Nat.ble (len * sz) 16777216 && Nat.beq z.cells.toList.length sz && Nat.blt len ucap)
      (match fillA (fun i => some (i * sz, sz)) (zrow len z.cells.toList) l with
        | some c => some (.cells .rw .exact c e, fun b => .slice (some ⟨b, 0, none⟩) len len)
        | none => none) none
    | _, _ => none
  | _ => none

theorem mkRow_sound {P : Program} {ρ : Inj} {t : TypeId} {len : Nat} {l : List (Nat × Value)} {ps : Array (Nat × Value)} {obj : AObj} {f : Nat → Value}
    (h : mkRow P t len l = some (obj, f)) (hps : PRel ρ l ps.toList) (w : World) : MakeV P ρ (Instr.buildSlice t len ps) obj f w := by
  unfold mkRow at h
  split at h
  · rename_i e hu
    split at h
    · rename_i sz z hsz hz
      obtain ⟨hb, h⟩ := cond_some h
      simp only [Bool.and_eq_true] at hb
      obtain ⟨⟨h1, h2⟩, h3⟩ := hb
      have h1 := Nat.le_of_ble_eq_true h1
      have h2 := Nat.eq_of_beq_eq_true h2
      have h3 := blt_lt h3
      split at h
      · rename_i c hc
        cases h
        obtain ⟨hzr, hzf⟩ := run_zeroValue w hz
        have hz2 : z.cells.size = sz := by simpa using h2
        have hzero : ARel ρ (zrow len z.cells.toList).toArray ((Array.range (len * sz)).map fun i => z.cells[i % z.cells.size]!) := by
          rw [← hz2, zrow_eq]
          exact plainAll_rel ρ (by simpa using plainAll_zrow (flat_cells hzf) len)
        obtain ⟨r', q1, q2⟩ := fill_sound hc hzero hps
        refine ⟨.cells r' e, .slice (some ⟨w.heap.size, 0, none⟩) len len, { w with heap := w.heap.push (.cells r' e) }, ?_, rfl,
          fun ρ' b hm hb => ⟨ORel.row (q2.mono hm), slice_zero hb (.inl ⟨h3, rfl⟩)⟩⟩
        simp only [Instr.buildSlice, Sem.run_bind, run_underlying hu, Result.andThen_ok, run_sizeOf w hsz]
        rw [if_neg (by omega)]
        by_cases e2 : len * sz = 0
        · rw [if_pos e2]
          have hrow : ((Array.range (len * sz)).map fun i => (#[] : Array Value)[i % (#[] : Array Value).size]!) =
              (Array.range (len * sz)).map fun i => z.cells[i % z.cells.size]! := by rw [e2]; simp
          simp only [Sem.run_bind, Sem.run_pure, Result.andThen_ok, hrow, q1, newRow_run]
        · rw [if_neg e2]
          simp only [Sem.run_bind, hzr, Sem.run_pure, Result.andThen_ok, q1, newRow_run]
      · cases h
    · cases h
  · cases h

def mkSlice (P : Program) (t : TypeId) (l c : Value) : Made := match P.underlying t, l, c with
  | some (.slice e), .int _ (.ofNat ln), .int _ (.ofNat cn) => match szQ P e, zeroQ P e with
    | some sz, some z =>
      cond (Nat.beq z.cells.toList.length sz && Nat.ble cn 9223372036854775807 && Nat.ble ln cn && Nat.ble (bytesQ P e * cn) 281474976710656)
        (some (.cells .rw .exact (zrow cn z.cells.toList) e, fun b => .slice (some ⟨b, 0, none⟩) ln cn)) none
    | _, _ => none
  | _, _, _ => none

theorem szQ_info {P : Program} {e : TypeId} {n : Nat} (h : szQ P e = some n) : ∃ i, P.info? e = some i ∧ i.bytes = bytesQ P e := by
  unfold szQ at h
  unfold bytesQ
  split at h
  · rename_i i hi; exact ⟨i, hi, by simp⟩
  · cases h

theorem mkSlice_sound {P : Program} {ρ : Inj} {t : TypeId} {l c l' c' : Value} {obj : AObj} {f : Nat → Value}
    (h : mkSlice P t l c = some (obj, f)) (rl : VRel ρ l l') (rc : VRel ρ c c') (w : World) : MakeV P ρ (Instr.makeSlice t l' c') obj f w := by
  unfold mkSlice at h
  split at h
  · rename_i e k1 ln k2 cn hu
    split at h
    · rename_i sz z hsz hz
      obtain ⟨hb, h⟩ := cond_some h
      simp only [Bool.and_eq_true] at hb
      obtain ⟨⟨⟨h1, h2⟩, h3⟩, h4⟩ := hb
      have h1 := Nat.eq_of_beq_eq_true h1
      have h2 := Nat.le_of_ble_eq_true h2
      have h3 := Nat.le_of_ble_eq_true h3
      have h4 := Nat.le_of_ble_eq_true h4
      cases h
      obtain ⟨hzr, hzf⟩ := run_zeroValue w hz
      have hz2 : z.cells.size = sz := by simpa using h1
      obtain ⟨i, hi, hib⟩ := szQ_info hsz
      cases rl; cases rc
      have w1 : IntKind.i64.wrap (Int.ofNat ln) = Int.ofNat ln := wrap_small .i64 ln (by simp [maxN]; omega)
      have w2 : IntKind.i64.wrap (Int.ofNat cn) = Int.ofNat cn := wrap_small .i64 cn (by simp [maxN]; omega)
      refine ⟨.cells (zrow cn z.cells.toList).toArray e, .slice (some ⟨w.heap.size, 0, none⟩) ln cn, { w with heap := w.heap.push (.cells (zrow cn z.cells.toList).toArray e) }, ?_, rfl,
        fun ρ' b hm hb => ⟨ORel.row (plainAll_rel ρ' (by simpa using plainAll_zrow (flat_cells hzf) cn)), slice_zero hb (.inl ⟨by unfold ucap; omega, rfl⟩)⟩⟩
      have hm : ((bytesQ P e : Nat) : Int) * Int.ofNat cn = ((bytesQ P e * cn : Nat) : Int) := by simp
      have hcond : ((decide (Int.ofNat cn < 0) || decide (((bytesQ P e : Nat) : Int) * Int.ofNat cn > 2 ^ 48)) || decide (Int.ofNat ln < 0) || decide (Int.ofNat ln > Int.ofNat cn)) = false := by
        rw [hm]
        simp only [Bool.or_eq_false_iff, decide_eq_false_iff_not, Int.ofNat_eq_natCast]
        omega
      have hrow0 : cn * sz = 0 → ((Array.range (cn * sz)).map fun i => (#[] : Array Value)[i % (#[] : Array Value).size]!) = (zrow cn z.cells.toList).toArray := by
        intro e2
        rw [← zrow_eq, hz2, e2]; simp
      have hrow1 : ((Array.range (cn * sz)).map fun i => z.cells[i % z.cells.size]!) = (zrow cn z.cells.toList).toArray := by
        rw [← zrow_eq, hz2]
      simp only [Instr.makeSlice, Sem.run_bind, run_underlying hu, Result.andThen_ok, asInt, asIntOf, Sem.run_pure, run_typeInfo w hi, w1, w2, hib, hcond, Bool.false_eq_true, if_false,
        run_askRoom, run_sizeOf w hsz]
      rw [show Int.toNat (Int.ofNat cn) = cn from rfl, show Int.toNat (Int.ofNat ln) = ln from rfl]
      by_cases e2 : cn * sz = 0
      · rw [if_pos e2]
        simp only [Sem.run_bind, Sem.run_pure, Result.andThen_ok, hrow0 e2, newRow_run]
      · rw [if_neg e2]
        simp only [Sem.run_bind, hzr, Sem.run_pure, Result.andThen_ok, hrow1, newRow_run]
    · cases h
  · cases h

def mkBytes (P : Program) (src dst : TypeId) (x : Value) : Made := match P.underlying src, P.underlying dst, x with
  | some .string, some (.slice e), .string s => match P.underlying e with
    | some (.int .u8) => cond (Nat.ble (strLen s) 9223372036854775807)
      (some (.cells .rw .loose (s.data.toList.map fun b => .int .u8 b.toNat) e, fun b => .slice (some ⟨b, 0, none⟩) (strLen s) ucap)) none
    | _ => none
  | _, _, _ => none

theorem mkBytes_sound {P : Program} {ρ : Inj} {src dst : TypeId} {x x' : Value} {obj : AObj} {f : Nat → Value}
    (h : mkBytes P src dst x = some (obj, f)) (rx : VRel ρ x x') (w : World) : MakeV P ρ (convert src dst x') obj f w := by
  unfold mkBytes at h
  split at h
  · rename_i e s hu1 hu2
    split at h
    · rename_i hu3
      obtain ⟨hb, h⟩ := cond_some h
      cases h
      cases rx
      obtain ⟨k, hk, hr⟩ := appendCap_run (P := P) (w := w) s.size 0 e
      obtain ⟨arr, harr⟩ : ∃ arr : Array Value, arr = (s.data.map fun b => Value.int .u8 b.toNat) ++ Array.replicate (k - s.size) (.int .u8 0) := ⟨_, rfl⟩
      have hsz : arr.size = k := by
        have : s.data.size = s.size := rfl
        simp only [harr, Array.size_append, Array.size_map, Array.size_replicate, this]; omega
      refine ⟨.cells arr e (k, k + 1), .slice (some ⟨w.heap.size, 0, none⟩) (strLen s) k,
        { w with heap := w.heap.push (.cells arr e (k, k + 1)), drawn := w.drawn + 1 }, ?_, rfl,
        fun ρ' b hm hb => ⟨.cells _ _ _ _ _ _ _ _ ?_ ?_ (fun hx => by cases hx) (fun hx => by cases hx), slice_zero hb (.inr ⟨rfl, by rw [strLen_eq]; exact hk⟩)⟩⟩
      · have hs1 : (convert src dst (.string s)).run P w = (Conv.stringToBytes e s).run P w := by
          simp only [convert, Sem.run_bind, run_underlying hu1, run_underlying hu2, Result.andThen_ok, run_underlying hu3]
        rw [hs1]
        simp only [Conv.stringToBytes, Sem.run_bind, hr, Result.andThen_ok, newRow_run]
        rw [← harr]
        have hshape : ∀ d, ({ w with heap := w.heap.push (.cells arr e), drawn := d } : World).shape? w.heap.size = some (e, k) := by
          intro d
          simp [World.shape?, hsz]
        have hfz : ∀ d, ({ w with heap := w.heap.push (.cells arr e), drawn := d } : World).freeze { block := w.heap.size, off := k } 1 =
            { w with heap := w.heap.push (.cells arr e (k, k + 1)), drawn := d } := by
          intro d
          simp only [World.freeze]
          rw [if_neg (by decide)]
          congr 1
          apply Array.ext_getElem?
          intro j
          rw [Array.getElem?_modify]
          by_cases ej : w.heap.size = j
          · subst ej
            simp
          · rw [if_neg ej, Array.getElem?_push, Array.getElem?_push, if_neg (fun h => ej h.symm), if_neg (fun h => ej h.symm)]
        simp only [markStringish, Sem.run_bind, run_shape, Result.andThen_ok]
        rw [hshape]
        simp only [run_freeze, hfz, Result.andThen_ok, Sem.run_pure, strLen_eq]
      · intro i v hv
        rw [List.getElem?_map] at hv
        cases hi : s.data.toList[i]? with
        | none => rw [hi] at hv; cases hv
        | some b' =>
          rw [hi] at hv
          cases hv
          have hlt : i < s.data.size := by
            rcases Nat.lt_or_ge i s.data.size with hh | hh
            · exact hh
            · rw [List.getElem?_eq_none (by simpa using hh)] at hi; cases hi
          refine ⟨.int .u8 b'.toNat, ?_, .int _ _⟩
          simp only [Nat.zero_add, harr]
          rw [Array.getElem?_append_left (by simpa using hlt)]
          have : s.data[i]? = some b' := by simpa using hi
          simp [this]
      · intro _ i hi
        rw [List.length_map] at hi
        have : i < s.size := hi
        omega
    · cases h
  · cases h

end Go.Tw
