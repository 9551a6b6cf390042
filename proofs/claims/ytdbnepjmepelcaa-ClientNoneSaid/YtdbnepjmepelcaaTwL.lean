/- A second machine for Go's model: operations that write memory: store, copy, maps. Conditions: none. -/
import Derived.Test.YtdbnepjmepelcaaTwK
import Derived.Laws.Append
namespace Go.Tw

/-- What an operation that writes comes to. -/
def EffV (P : Program) (ρ : Inj) (h : AHeap) (s : Sem Value) (v : Value) (h' : AHeap) (w : World) : Prop :=
  ∃ v' w' ρ', s.run P w = .ok v' w' ∧ VRel ρ' v v' ∧ Rel ρ' h' w' ∧ Ext ρ h w ρ' h' w'

def EffU (P : Program) (ρ : Inj) (h : AHeap) (s : Sem Unit) (h' : AHeap) (w : World) : Prop :=
  ∃ w' ρ', s.run P w = .ok () w' ∧ Rel ρ' h' w' ∧ Ext ρ h w ρ' h' w'

def aStore (P : Program) (h : AHeap) (t : TypeId) (a x : Value) : Option AHeap :=
  match a, szQ P t with
  | .pointer (some a), some n => cond (Nat.beq x.cells.toList.length n) (astore h a x.cells.toList) none
  | _, _ => none

theorem aStore_sound {P : Program} {ρ : Inj} {h h' : AHeap} {w : World} (r : Rel ρ h w) {t : TypeId} {a a' x x' : Value} (hl : aStore P h t a x = some h')
    (ra : VRel ρ a a') (rx : VRel ρ x x') : EffU P ρ h (Instr.storeAt t a' x') h' w := by
  unfold aStore at hl
  split at hl
  · rename_i ad n hn
    obtain ⟨hb, hl⟩ := cond_some hl
    have hb := Nat.eq_of_beq_eq_true hb
    cases ra with
    | ptr b o c d hρ =>
    have hc := ARel.of_cells rx
    have hsz : x'.cells.size = n := by rw [← hc.1]; simpa using hb
    obtain ⟨w', h1, h2, h3, _⟩ := astore_sound P r (l' := x'.cells.toList) hl (.ptr b o c d hρ) (by simpa using hc)
    exact ⟨w', ρ, by simp [Instr.storeAt, Instr.sureAddr, storeVar, run_sizeOf w hn, hsz, h1], h2, h3⟩
  · cases hl

/-! Maps. -/
theorem setMap_run {P : Program} {w : World} {r : Nat} {es es' : Array MapEntry} {clock c' : Nat} (h : w.heap[r]? = some (.map es clock)) :
    (setObj r (.map es' c')).run P w = .ok () { w with heap := w.heap.setIfInBounds r (.map es' c') } := by
  simp [setObj, Sem.run, h]

def aUpd (es : List MapEntry) (i : Nat) (k v : Value) : List MapEntry := match es, i with
  | [], _ => []
  | e :: r, 0 => { key := k, val := v, born := e.born } :: r
  | e :: r, i + 1 => e :: aUpd r i k v

theorem aUpd_get : ∀ (es : List MapEntry) (i : Nat) (k v : Value) (j : Nat), (aUpd es i k v)[j]? = if j = i then (es[i]?).map (fun e => { e with key := k, val := v }) else es[j]?
  | [], i, k, v, j => by simp [aUpd]
  | e :: r, 0, k, v, j => by
    cases j with
    | zero => simp [aUpd]
    | succ j => simp [aUpd]
  | e :: r, i + 1, k, v, j => by
    cases j with
    | zero => simp [aUpd]
    | succ j => simp [aUpd, aUpd_get r i k v j]

theorem aUpd_length : ∀ (es : List MapEntry) (i : Nat) (k v : Value), (aUpd es i k v).length = es.length
  | [], _, _, _ => rfl
  | _ :: _, 0, _, _ => rfl
  | _ :: r, i + 1, k, v => by simp [aUpd, aUpd_length r i k v]

def aMapUpdate (P : Program) (h : AHeap) (t : TypeId) (m k x : Value) : Option AHeap :=
  match P.underlying t, m with
  | some (.map key _), .map (some r) => match P.underlying key, h.get r with
    | some kd, some (.map es clock) => cond (keyKind kd) (match aFind kd k es 0 with
      | some (some (i, _)) => some (h.put r (.map (aUpd es i k x) clock))
      | some none => some (h.put r (.map (es ++ [{ key := k, val := x, born := clock }]) (clock + 1)))
      | none => none) none
    | _, _ => none
  | _, _ => none

theorem sameBits_of_now {kd : TypeDesc} {a b : Value} (h : Instr.sameNow kd a b = some true) : Instr.sameBits 10000 b a = true := by
  unfold Instr.sameNow at h
  split at h
  · rename_i k x k' y
    split at h
    · rename_i e
      simp at h
      subst e; subst h
      simp [Instr.sameBits]
    · cases h
  · rename_i a b
    simp only [Option.some.injEq] at h
    have h1 : a.toList = b.toList := by rw [beq_toListBytes] at h; simpa using h
    have h2 : (b == a) = true := by rw [beq_toListBytes, h1]; simp
    simpa [Instr.sameBits] using h2
  · simp at h; subst h; simp [Instr.sameBits]
  · cases h

theorem findNow_hit {kd : TypeDesc} {k : Value} : ∀ {es : List MapEntry} {i j : Nat} {v : Value}, Instr.findNow kd k es i = some (some (j, v)) →
    i ≤ j ∧ ∃ e, es[j - i]? = some e ∧ Instr.sameNow kd k e.key = some true
  | [], i, j, v, h => by simp [Instr.findNow] at h
  | e :: es, i, j, v, h => by
    simp only [Instr.findNow] at h
    split at h
    · rename_i hs
      cases h
      exact ⟨Nat.le_refl _, e, by simp, hs⟩
    · obtain ⟨h1, e', h2, h3⟩ := findNow_hit h
      refine ⟨by omega, e', ?_, h3⟩
      rw [show j - i = (j - (i + 1)) + 1 from by omega]
      simpa using h2
    · cases h

theorem aMapUpdate_sound {P : Program} {ρ : Inj} {h h' : AHeap} {w : World} (r : Rel ρ h w) {t : TypeId} {m m' k k' x x' : Value} (hl : aMapUpdate P h t m k x = some h')
    (rm : VRel ρ m m') (rk : VRel ρ k k') (rx : VRel ρ x x') : EffU P ρ h (Instr.mapUpdate t m' k' x') h' w := by
  unfold aMapUpdate at hl
  split at hl
  · rename_i key elem b hu
    split at hl
    · rename_i kd es clock hkd hg
      obtain ⟨hkk, hl⟩ := cond_some hl
      cases rm with
      | map b c d hρ =>
      obtain ⟨es', hw, hlen, hel, hle⟩ := (r.obj _ _ _ _ hρ hg).mapOf
      split at hl
      · rename_i i u hf
        cases hl
        obtain ⟨v', hf', rv, _, hi⟩ := aFind_some rk hle hf
        obtain ⟨_, e, he, hsame⟩ := findNow_hit hf'
        simp at hi he
        have hkey : (Instr.keyThatStays (((es'[i]?).map (·.key)).getD k') k').run P w = .ok k' w := by
          simp [Instr.keyThatStays, he, sameBits_of_now hsame]
        obtain ⟨ra, rb⟩ := r.write (o' := .map (aUpd es i k x) clock) (x := .map (es'.modify i fun e => { e with key := k', val := x' }) clock)
          (w' := { w with heap := w.heap.setIfInBounds c (.map (es'.modify i fun e => { e with key := k', val := x' }) clock) }) hρ hg rfl rfl (by
            refine .map _ _ _ _ (by simp [aUpd_length, hlen]) (fun j y y' hy hy' => ?_)
            rw [aUpd_get] at hy
            rw [Array.getElem?_modify] at hy'
            by_cases e2 : j = i
            · subst e2
              rw [if_pos rfl] at hy hy'
              cases h1 : es[j]? with
              | none => rw [h1] at hy; cases hy
              | some y1 =>
                rw [h1] at hy
                rw [he] at hy'
                cases hy; cases hy'
                exact ⟨rk, rx, (hel j y1 e h1 he).2.2⟩
            · rw [if_neg e2] at hy
              rw [if_neg (fun h => e2 h.symm)] at hy'
              exact hel j y y' hy hy')
        refine ⟨_, ρ, ?_, ra, rb⟩
        simp only [Instr.mapUpdate, Sem.run_bind, run_underlying hu, Result.andThen_ok, getMap_run hw, checkKey_run hkd hkk, findKey_run hkd hf', hkey, setMap_run hw]
      · rename_i hf
        cases hl
        have hf' := aFind_none rk hle hf
        obtain ⟨ra, rb⟩ := r.write (o' := .map (es ++ [{ key := k, val := x, born := clock }]) (clock + 1)) (x := .map (es'.push { key := k', val := x', born := clock }) (clock + 1))
          (w' := { w with heap := w.heap.setIfInBounds c (.map (es'.push { key := k', val := x', born := clock }) (clock + 1)) }) hρ hg rfl rfl (by
            refine .map _ _ _ _ (by simp [hlen]) (fun j y y' hy hy' => ?_)
            rw [Array.getElem?_push] at hy'
            by_cases e2 : j = es'.size
            · rw [if_pos e2] at hy'
              rw [List.getElem?_append_right (by omega)] at hy
              have : j - es.length = 0 := by omega
              rw [this] at hy
              cases hy; cases hy'
              exact ⟨rk, rx, rfl⟩
            · rw [if_neg e2] at hy'
              have : j < es.length := by
                rcases Nat.lt_or_ge j es.length with hh | hh
                · exact hh
                · rw [Array.getElem?_eq_none (by omega)] at hy'; cases hy'
              rw [List.getElem?_append_left this] at hy
              exact hel j y y' hy hy')
        refine ⟨_, ρ, ?_, ra, rb⟩
        simp only [Instr.mapUpdate, Sem.run_bind, run_underlying hu, Result.andThen_ok, getMap_run hw, checkKey_run hkd hkk, findKey_run hkd hf', setMap_run hw]
      · cases hl
    · cases hl
  · cases hl

def aClear (P : Program) (h : AHeap) (t : TypeId) (m : Value) : Option AHeap :=
  match P.underlying t, m with
  | some (.map _ _), .map (some r) => match h.get r with
    | some (.map _ clock) => some (h.put r (.map [] clock))
    | _ => none
  | _, _ => none

theorem aClear_sound {P : Program} {ρ : Inj} {h h' : AHeap} {w : World} (r : Rel ρ h w) {t : TypeId} {ts : Array TypeId} {ty : TypeId} {m m' : Value} (hl : aClear P h t m = some h')
    (ht : ts[0]? = some t) (rm : VRel ρ m m') : EffV P ρ h (Builtin.clear_ ts ty #[m']) (.tuple #[]) h' w := by
  unfold aClear at hl
  split at hl
  · rename_i key elem b hu
    split at hl
    · rename_i es clock hg
      cases hl
      cases rm with
      | map b c d hρ =>
      obtain ⟨es', hw, hlen, hel, hle⟩ := (r.obj _ _ _ _ hρ hg).mapOf
      obtain ⟨ra, rb⟩ := r.write (o' := .map [] clock) (x := .map #[] clock) (w' := { w with heap := w.heap.setIfInBounds c (.map #[] clock) }) hρ hg rfl rfl
        (.map _ _ _ _ rfl (fun j y y' hy _ => by simp at hy))
      exact ⟨_, _, ρ, by simp [Builtin.clear_, ht, run_underlying hu, getMap_run hw, setMap_run hw], .tuple_of (ARel.nil ρ), ra, rb⟩
    · cases hl
  · cases hl

/-! copy. -/
def srcCells (h : AHeap) (sz n : Nat) (x : Value) : Option (List Value) :=
  match x with
  | .slice none _ _ => cond (Nat.beq n 0) (some []) none
  | .slice (some a) _ _ => cond (Nat.beq n 0) (some []) (aload h a (n * sz))
  | .string s => cond (Nat.beq n (strLen s)) (some (s.data.toList.map fun b => .int .u8 b.toNat)) none
  | _ => none

def lenV (x : Value) : Option Nat :=
  match x with
  | .slice _ n _ => some n
  | .string s => some (strLen s)
  | _ => none

theorem lenV_sound {P : Program} {ρ : Inj} {x x' : Value} {n : Nat} (h : lenV x = some n) (r : VRel ρ x x') (w : World) : (Builtin.lenOf x').run P w = .ok n w := by
  unfold lenV at h
  split at h
  · cases h; cases r <;> rfl
  · cases h; cases r; simp [Builtin.lenOf, strLen_eq]
  · cases h

theorem srcCells_all {P : Program} {ρ : Inj} {h : AHeap} {w : World} (r : Rel ρ h w) {sz n : Nat} {x x' : Value} {l : List Value} (hl : srcCells h sz n x = some l) (rx : VRel ρ x x') :
    ∃ arr, (∀ w1, w1.heap = w.heap → (Builtin.firstCells sz n x').run P w1 = .ok arr w1) ∧ ARel ρ l.toArray arr := by
  unfold srcCells at hl
  split at hl
  · obtain ⟨hb, hl⟩ := cond_some hl
    cases hl; cases rx
    exact ⟨#[], fun _ _ => rfl, ARel.nil ρ⟩
  · rename_i a n' k
    cases hn : Nat.beq n 0 with
    | true =>
      have hn := Nat.eq_of_beq_eq_true hn
      subst hn
      simp at hl; subst hl
      refine ⟨#[], fun w1 _ => ?_, ARel.nil ρ⟩
      cases rx <;> simp [Builtin.firstCells, loadCells, loadCellsFrom]
    | false =>
      rw [hn] at hl
      simp only [cond_false] at hl
      cases rx with
      | wild a a' k' hs =>
        exfalso
        unfold aload at hl
        split at hl
        · rename_i hs' _; rw [hs'] at hs; cases hs
        · cases hl
      | slice b o c d n k k' hρ hk =>
        obtain ⟨arr, h1, h2, _⟩ := aload_all P r hl (.ptr b o c d hρ)
        exact ⟨arr, fun w1 e1 => by simp [Builtin.firstCells, h1 w1 e1], h2⟩
  · rename_i s
    obtain ⟨hb, hl⟩ := cond_some hl
    have hb := Nat.eq_of_beq_eq_true hb
    cases hl; cases rx
    refine ⟨_, fun _ _ => rfl, ?_⟩
    have e1 : s.extract 0 n = s := by
      rw [hb, strLen_eq]
      obtain ⟨⟨x⟩⟩ := s
      rw [ByteArray.extract_mk]
      simp [ByteArray.size]
    rw [e1]
    have e2 : (s.data.toList.map fun b => Value.int .u8 (b.toNat : Int)).toArray = s.data.map fun b => Value.int .u8 (b.toNat : Int) := by
      apply Array.ext'
      simp
    rw [e2]
    exact ⟨rfl, fun i u u' a b => by
      rw [a] at b
      cases b
      rw [Array.getElem?_map] at a
      cases hh : s.data[i]? with
      | none => rw [hh] at a; cases a
      | some q => rw [hh] at a; cases a; exact .int _ _⟩
  · cases hl

theorem srcCells_sound {P : Program} {ρ : Inj} {h : AHeap} {w : World} (r : Rel ρ h w) {sz n : Nat} {x x' : Value} {l : List Value} (hl : srcCells h sz n x = some l) (rx : VRel ρ x x') :
    ∃ arr, (Builtin.firstCells sz n x').run P w = .ok arr w ∧ ARel ρ l.toArray arr :=
  let ⟨arr, h1, h2⟩ := srcCells_all (P := P) r hl rx
  ⟨arr, h1 w rfl, h2⟩

def aCopy (P : Program) (h : AHeap) (t : TypeId) (dst src : Value) : Option (Value × AHeap) :=
  match P.underlying t, dst, lenV src with
  | some (.slice e), .slice (some a) dn _, some sn => match szQ P e with
    | some sz => match srcCells h sz (Nat.min sn dn) src with
      | some l => match astore h a l with
        | some h' => some (goInt (Nat.min sn dn), h')
        | none => none
      | none => none
    | none => none
  | some (.slice e), .slice none dn _, some sn => match szQ P e with
    | some sz => match srcCells h sz (Nat.min sn dn) src with
      | some _ => some (goInt (Nat.min sn dn), h)
      | none => none
    | none => none
  | _, _, _ => none

theorem astore_wild {h h' : AHeap} {a : Addr} {l : List Value} (hs : a.spot.isSome = true) (hl : astore h a l = some h') : l = [] ∧ h' = h := by
  unfold astore at hl
  split at hl
  · cases hl; exact ⟨rfl, rfl⟩
  · split at hl
    · rename_i hs' _; rw [hs'] at hs; cases hs
    · cases hl

theorem aCopy_sound {P : Program} {ρ : Inj} {h h' : AHeap} {w : World} (r : Rel ρ h w) {t : TypeId} {ts : Array TypeId} {ty : TypeId} {x x' y y' v : Value} (hl : aCopy P h t x y = some (v, h'))
    (ht : ts[0]? = some t) (rx : VRel ρ x x') (ry : VRel ρ y y') : EffV P ρ h (Builtin.copy_ ts ty #[x', y']) v h' w := by
  unfold aCopy at hl
  split at hl
  · rename_i e a dn k sn hu hlen
    have hl1 := lenV_sound (P := P) hlen ry w
    split at hl
    · rename_i sz hsz
      split at hl
      · rename_i l hcells
        obtain ⟨arr, h1, h2⟩ := srcCells_sound (P := P) r hcells ry
        split at hl
        · rename_i h2' hst
          cases hl
          cases rx with
          | wild a a' k' hs =>
            obtain ⟨rfl, rfl⟩ := astore_wild hs hst
            have : arr = #[] := by have := h2.1; simpa using this.symm
            subst this
            have h3 : (Builtin.firstCells sz 0 y').run P w = .ok #[] w := by simpa using h1
            refine ⟨_, w, ρ, ?_, .int _ _, r, Ext.refl _ _ _⟩
            simp [Builtin.copy_, ht, run_underlying hu, hl1, run_sizeOf w hsz, h3, storeCells, goInt]
          | slice b o c d n k k' hρ hk =>
            obtain ⟨w', q1, q2, q3, _⟩ := astore_sound P r (l' := arr.toList) hst (.ptr b o c d hρ) (by simpa using h2)
            refine ⟨_, w', ρ, ?_, .int _ _, q2, q3⟩
            simp [Builtin.copy_, ht, run_underlying hu, hl1, run_sizeOf w hsz, h1, q1, goInt]
        · cases hl
      · cases hl
    · cases hl
  · rename_i e dn k sn hu hlen
    have hl1 := lenV_sound (P := P) hlen ry w
    split at hl
    · rename_i sz hsz
      split at hl
      · rename_i l hcells
        obtain ⟨arr, h1, h2⟩ := srcCells_sound (P := P) r hcells ry
        cases hl
        cases rx
        refine ⟨_, w, ρ, ?_, .int _ _, r, Ext.refl _ _ _⟩
        simp [Builtin.copy_, ht, run_underlying hu, hl1, run_sizeOf w hsz, h1, goInt]
      · cases hl
    · cases hl
  · cases hl

end Go.Tw
