/- A second machine for Go's model: building structs, rows and slices. Conditions: none. -/
import Derived.Test.YtdbnepjmepelcaaTwG
namespace Go.Tw

def evParts (ev : Operand → Option Value) : List (Nat × Operand) → Option (List (Nat × Value))
  | [] => some []
  | (i, x) :: r => match ev x, evParts ev r with
    | some v, some l => some ((i, v) :: l)
    | _, _ => none

def evList (ev : Operand → Option Value) : List Operand → Option (List Value)
  | [] => some []
  | x :: r => match ev x, evList ev r with
    | some v, some l => some (v :: l)
    | _, _ => none

def PRel (ρ : Inj) : List (Nat × Value) → List (Nat × Value) → Prop
  | [], [] => True
  | (i, v) :: r, (i', v') :: r' => i = i' ∧ VRel ρ v v' ∧ PRel ρ r r'
  | _, _ => False

theorem evParts_sound {ρ : Inj} {ev : Operand → Option Value} {ec : Operand → Value} (he : ∀ x v, ev x = some v → VRel ρ v (ec x)) :
    ∀ {l : List (Nat × Operand)} {r : List (Nat × Value)}, evParts ev l = some r → PRel ρ r (l.map fun (i, x) => (i, ec x))
  | [], r, h => by simp [evParts] at h; subst h; trivial
  | (i, x) :: l, r, h => by
    unfold evParts at h
    split at h
    · rename_i v l' hv hl
      cases h
      exact ⟨rfl, he _ _ hv, evParts_sound he hl⟩
    · cases h

theorem evList_sound {ρ : Inj} {ev : Operand → Option Value} {ec : Operand → Value} (he : ∀ x v, ev x = some v → VRel ρ v (ec x)) :
    ∀ {l : List Operand} {r : List Value}, evList ev l = some r → r.length = l.length ∧ ∀ (i : Nat) (u u' : Value), r[i]? = some u → (l.map ec)[i]? = some u' → VRel ρ u u'
  | [], r, h => by simp [evList] at h; subst h; simp
  | x :: l, r, h => by
    unfold evList at h
    split at h
    · rename_i v l' hv hl
      cases h
      obtain ⟨h1, h2⟩ := evList_sound he hl
      refine ⟨by simp [h1], fun i u u' a b => ?_⟩
      cases i with
      | zero => simp at a b; subst a; subst b; exact he _ _ hv
      | succ i => exact h2 i u u' (by simpa using a) (by simpa using b)
    · cases h

theorem evList_arr {ρ : Inj} {ev : Operand → Option Value} {ec : Operand → Value} (he : ∀ x v, ev x = some v → VRel ρ v (ec x)) {xs : Array Operand} {r : List Value}
    (h : evList ev xs.toList = some r) : ARel ρ r.toArray (xs.map ec) := by
  obtain ⟨h1, h2⟩ := evList_sound he h
  refine ⟨by simp [h1], fun i u u' a b => h2 i u u' (by simpa using a) (by simpa using b)⟩

/-- Parts laid into a row. -/
def fillA (place : Nat → Option (Nat × Nat)) (cells : List Value) : List (Nat × Value) → Option (List Value)
  | [] => some cells
  | (i, v) :: rest => match place i with
    | none => none
    | some (off, size) => cond (Nat.beq v.cells.toList.length size && Nat.blt 0 size) (match lay off v.cells.toList cells with
      | some c => fillA place c rest
      | none => none) none

theorem foldl_putRow (off : Nat) : ∀ (l : List Value) (k : Nat) (arr : Array Value),
    (l.zipIdx k).foldl (fun cs (x : Value × Nat) => cs.setIfInBounds (off + x.2) x.1) arr = putRow arr (off + k) l
  | [], k, arr => rfl
  | v :: l, k, arr => by
    simp only [List.zipIdx_cons, List.foldl_cons, putRow]
    rw [foldl_putRow off l (k + 1)]
    rfl

theorem fill_sound {ρ : Inj} {place : Nat → Option (Nat × Nat)} : ∀ {parts parts' : List (Nat × Value)} {cells r : List Value} {cells' : Array Value},
    fillA place cells parts = some r → ARel ρ cells.toArray cells' → PRel ρ parts parts' →
    ∃ r', Instr.fill place cells' parts' = some r' ∧ ARel ρ r.toArray r'
  | [], [], cells, r, cells', h, hc, _ => by simp [fillA] at h; subst h; exact ⟨cells', rfl, hc⟩
  | [], _ :: _, _, _, _, _, _, hp => hp.elim
  | _ :: _, [], _, _, _, _, _, hp => hp.elim
  | (i, v) :: ps, (i', v') :: ps', cells, r, cells', h, hc, hp => by
    obtain ⟨rfl, hv, hp⟩ := hp
    unfold fillA at h
    split at h
    · cases h
    · rename_i off size hpl
      obtain ⟨hb, h⟩ := cond_some h
      rw [Bool.and_eq_true] at hb
      have hsz := Nat.eq_of_beq_eq_true hb.1
      have hpos := blt_lt hb.2
      split at h
      · rename_i c hlay
        obtain ⟨l1, l2, l3⟩ := lay_some hlay
        have hcells := ARel.of_cells hv
        have hcsz : cells.length = cells'.size := by simpa using hc.1
        have hvsz : v'.cells.size = size := by rw [← hcells.1]; simpa using hsz
        have e1 : v.cells.toList.length = v.cells.size := by simp
        have hput : ∀ hfit : off + v'.cells.size ≤ cells'.size, ARel ρ c.toArray (putRow cells' off v'.cells.toList) := by
          intro hfit
          refine ⟨by rw [putRow_size]; simp [l1, hcsz], fun j u u' a b => ?_⟩
          rw [putRow_get _ _ _ (by simpa using hfit)] at b
          simp only [List.getElem?_toArray] at a
          rw [l3] at a
          have e2 : v'.cells.toList.length = v'.cells.size := by simp
          by_cases hin : off ≤ j ∧ j < off + size
          · rw [if_pos (by omega)] at a b
            exact hcells.2 (j - off) u u' (by simpa using a) (by simpa using b)
          · rw [if_neg (by omega)] at a
            rw [if_neg (by omega)] at b
            exact hc.2 j u u' (by simpa using a) b
        rcases l2 with l2 | l2
        · have hfit : off + v'.cells.size ≤ cells'.size := by omega
          obtain ⟨r', h1, h2⟩ := fill_sound h (hput hfit) hp
          refine ⟨r', ?_, h2⟩
          simp only [Instr.fill, hpl]
          rw [if_neg (by simp; omega)]
          have key : v'.cells.zipIdx.foldl (fun cs (x : Value × Nat) => cs.setIfInBounds (off + x.2) x.1) cells' = putRow cells' off v'.cells.toList := by
            rw [← Array.foldl_toList, Array.toList_zipIdx, foldl_putRow]
            rfl
          exact Eq.trans (congrArg (fun z => Instr.fill place z ps') key) h1
        · rw [l2] at hsz; simp at hsz; omega
      · cases h

/-! Structs and arrays. -/
def sizesQ (P : Program) : List Field → Option (List (Nat × Nat))
  | [] => some []
  | f :: r => match szQ P f.type, sizesQ P r with
    | some n, some l => some ((f.offset, n) :: l)
    | _, _ => none

theorem sizesQ_run {P : Program} (w : World) : ∀ {fs : List Field} {l : List (Nat × Nat)}, sizesQ P fs = some l →
    (fs.mapM fun f => (do pure (f.offset, ← sizeOf f.type) : Sem (Nat × Nat))).run P w = .ok l w
  | [], l, h => by simp [sizesQ] at h; subst h; simp
  | f :: r, l, h => by
    unfold sizesQ at h
    split at h
    · rename_i n l' hn hl
      cases h
      simp only [List.mapM_cons, Sem.run_bind, run_sizeOf w hn, Result.andThen_ok, Sem.run_pure, sizesQ_run w hl]
    · cases h

def aBuild (P : Program) (t : TypeId) (parts : List (Nat × Value)) : Option Value :=
  match P.underlying t, zeroQ P t with
  | some (.struct fs), some z => match sizesQ P fs.toList with
    | some pl => match fillA (fun (i : Nat) => pl[i]?) z.cells.toList parts with
      | some l => some (.agg l.toArray)
      | none => none
    | none => none
  | some (.array _ e), some z => match szQ P e with
    | some sz => match fillA (fun i => some (i * sz, sz)) z.cells.toList parts with
      | some l => some (.agg l.toArray)
      | none => none
    | none => none
  | _, _ => none

theorem ARel.self_of_flat {ρ : Inj} {z : Value} (h : flat z = true) : ARel ρ z.cells.toList.toArray z.cells := by
  have := ARel.of_cells (flat_rel ρ h)
  simpa using this

theorem aBuild_sound {P : Program} {ρ : Inj} {ev : Operand → Option Value} {ec : Operand → Value} (he : ∀ x v, ev x = some v → VRel ρ v (ec x)) {t : TypeId} {ps : Array (Nat × Operand)}
    {l : List (Nat × Value)} {v : Value} (hp : evParts ev ps.toList = some l) (h : aBuild P t l = some v) (w : World) :
    ∃ v', (Instr.build t (ps.map fun (i, x) => (i, ec x))).run P w = .ok v' w ∧ VRel ρ v v' := by
  have hps := evParts_sound he hp
  have e0 : (ps.map fun (i, x) => (i, ec x)).toList = ps.toList.map fun (i, x) => (i, ec x) := by simp
  unfold aBuild at h
  split at h
  · rename_i fs z hu hz
    obtain ⟨hzr, hzf⟩ := run_zeroValue w hz
    split at h
    · rename_i pl hpl
      split at h
      · rename_i r hr
        cases h
        obtain ⟨r', h1, h2⟩ := fill_sound hr (ARel.self_of_flat hzf) hps
        refine ⟨.agg r', ?_, .agg_of h2⟩
        have hm := sizesQ_run w hpl
        have hpf : (fun (i : Nat) => pl.toArray[i]?) = fun (i : Nat) => pl[i]? := by funext i; simp
        simp only [Instr.build, Sem.run_bind, hzr, Result.andThen_ok, run_underlying hu, Array.mapM_eq_mapM_toList, Sem.run_map, hm]
        simp only [e0, hpf, h1, Sem.run_pure]
      · cases h
    · cases h
  · rename_i n e z hu hz
    obtain ⟨hzr, hzf⟩ := run_zeroValue w hz
    split at h
    · rename_i sz hsz
      split at h
      · rename_i r hr
        cases h
        obtain ⟨r', h1, h2⟩ := fill_sound hr (ARel.self_of_flat hzf) hps
        refine ⟨.agg r', ?_, .agg_of h2⟩
        simp only [Instr.build, Sem.run_bind, hzr, Result.andThen_ok, run_underlying hu, run_sizeOf w hsz]
        simp only [e0, h1, Sem.run_pure]
      · cases h
    · cases h
  · cases h

end Go.Tw
