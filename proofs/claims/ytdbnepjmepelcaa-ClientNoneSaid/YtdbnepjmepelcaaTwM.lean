/- A second machine for Go's model: append. Conditions: none. -/
import Derived.Test.YtdbnepjmepelcaaTwL
namespace Go.Tw

/-- What is appended is a slice's or a string's. -/
def appKind (d : TypeDesc) : Bool := match d with
  | .slice _ | .string => true
  | _ => false

/-- An append that grows. -/
theorem grow_run {P : Program} {w : World} {ty e st xt : TypeId} {d : TypeDesc} {sz n sLen k' : Nat} {x' z : Value} {base : Option Addr} {old new : Array Value} {i : TypeInfo}
    (hu : P.underlying st = some (.slice e)) (hd : P.underlying xt = some d) (hk : appKind d = true) (hsz : szQ P e = some sz)
    (hlen : ∀ w, (Builtin.lenOf x').run P w = .ok n w) (hgt : k' < sLen + n) (hi : P.info? e = some i) (hbytes : (sLen + n) * i.bytes ≤ 140737488355328)
    (hneed : sLen + n ≤ 9223372036854775807) (hz : ∀ w, (zeroValue e).run P w = .ok z w)
    (hold : ∀ d, (Builtin.firstCells sz sLen (.slice base sLen k')).run P { w with drawn := d } = .ok old { w with drawn := d })
    (hnew : ∀ d, (Builtin.firstCells sz n x').run P { w with drawn := d } = .ok new { w with drawn := d }) :
    ∃ cap, sLen + n ≤ cap ∧ (Builtin.append_ #[st, xt] ty #[.slice base sLen k', x']).run P w =
      .ok (.slice (some ⟨w.heap.size, 0, none⟩) (sLen + n) cap)
        { w with heap := w.heap.push (.cells (old ++ new ++ Builtin.zeroCells z.cells (cap - (sLen + n))) e), drawn := w.drawn + 1 } := by
  obtain ⟨cap, hcap, hch⟩ := appendCap_run (P := P) (w := w) (sLen + n) k' e
  refine ⟨cap, hcap, ?_⟩
  have hb : ¬ (281474976710656 < Builtin.nextslicecap (sLen + n) k' * i.bytes) := by
    have h1 : Builtin.nextslicecap (sLen + n) k' * i.bytes ≤ 2 * (sLen + n) * i.bytes := Nat.mul_le_mul_right _ (nextslicecap_le hgt)
    rw [Nat.mul_assoc] at h1
    omega
  have hn : ¬ (sLen + n ≤ k') := by omega
  have h63' : ¬ (9223372036854775807 < ((sLen : Int) + (n : Int))) := by omega
  have hch' : (choose (.appendCap (sLen + n) k' e)).run P w = .ok cap w.drew := hch
  have ho : (Builtin.firstCells sz sLen (.slice base sLen k')).run P w.drew = .ok old w.drew := hold _
  have hw : (Builtin.firstCells sz n x').run P w.drew = .ok new w.drew := hnew _
  cases d <;> simp [appKind] at hk
  all_goals
    simp [-run_choose, Builtin.append_, run_underlying hu, run_underlying hd, run_sizeOf w hsz, run_typeInfo _ hi, hlen, hn, h63', hb, hch', ho, hw, hz, newRow_run]
    rfl

/-- An append that fits. -/
theorem fits_run {P : Program} {w w' : World} {ty e st xt : TypeId} {d : TypeDesc} {sz n sLen k' : Nat} {x' : Value} {base : Option Addr} {new : Array Value}
    (hu : P.underlying st = some (.slice e)) (hd : P.underlying xt = some d) (hk : appKind d = true) (hsz : szQ P e = some sz)
    (hlen : ∀ w, (Builtin.lenOf x').run P w = .ok n w) (hle : sLen + n ≤ k')
    (hnew : (Builtin.firstCells sz n x').run P w = .ok new w)
    (hst : (match base with | some a => storeCells (a.add (sLen * sz)) new.toList | none => pure () : Sem Unit).run P w = .ok () w') :
    (Builtin.append_ #[st, xt] ty #[.slice base sLen k', x']).run P w = .ok (.slice base (sLen + n) k') w' := by
  cases d <;> simp [appKind] at hk
  all_goals
    cases base with
    | none =>
      simp at hst; subst hst
      simp [Builtin.append_, run_underlying hu, run_underlying hd, run_sizeOf w hsz, hlen, hle, hnew]
    | some a =>
      simp only at hst
      simp [Builtin.append_, run_underlying hu, run_underlying hd, run_sizeOf w hsz, hlen, hle, hnew, hst]


def aGrow (P : Program) (h : AHeap) (m : Md) (e : TypeId) (sz sLen n : Nat) (old new : List Value) : Option (Value × AHeap) :=
  match zeroQ P e with
  | some z => cond (Nat.beq z.cells.toList.length sz && Nat.blt 0 sz && Nat.ble ((sLen + n) * bytesQ P e) 140737488355328 && Nat.ble (sLen + n) 9223372036854775807 && Nat.blt (h.next + 1) lim
      && Nat.beq old.length (sLen * sz) && Nat.beq new.length (n * sz))
    (some (.slice (some ⟨h.next, 0, none⟩) (sLen + n) (ucap + sz), h.push (.cells m .app (old ++ new) e))) none
  | none => none

def notRo : Md → Bool
  | .ro => false
  | _ => true

def aApp (P : Program) (h : AHeap) (e : TypeId) (s x : Value) : Option (Value × AHeap) :=
  match szQ P e, lenV x with
  | some sz, some n => match srcCells h sz n x with
    | some new => match s with
      | .slice none sLen k => cond (Nat.beq sLen 0 && Nat.beq k 0) (cond (Nat.beq n 0) (some (s, h)) (aGrow P h .rw e sz 0 n [] new)) none
      | .slice (some ⟨b, o, none⟩) sLen k =>
        cond (Nat.blt k ucap)
          (cond (Nat.ble (sLen + n) k)
            (match astore h ⟨b, o + sLen * sz, none⟩ new with
              | some h' => some (.slice (some ⟨b, o, none⟩) (sLen + n) k, h')
              | none => none)
            (match aload h ⟨b, o, none⟩ (sLen * sz) with
              | some old => aGrow P h .rw e sz sLen n old new
              | none => none))
          (cond (Nat.beq n 0) (some (s, h))
            (cond (Nat.beq k (ucap + sz))
              (match h.get b with
                | some (.cells m .app c e') => cond (notRo m && Nat.beq e e' && Nat.beq (o + sLen * sz) c.length && allOne new)
                  (match aload h ⟨b, o, none⟩ (sLen * sz) with
                    | some old => aGrow P (h.put b .dead) m e sz sLen n old new
                    | none => none) none
                | _ => none) none))
      | _ => none
    | none => none
  | _, _ => none

theorem lenV_any {P : Program} {ρ : Inj} {x x' : Value} {n : Nat} (h : lenV x = some n) (r : VRel ρ x x') : ∀ w, (Builtin.lenOf x').run P w = .ok n w := fun w => lenV_sound h r w

theorem ARel.append {ρ : Inj} {x x' y y' : Array Value} (a : ARel ρ x x') (b : ARel ρ y y') : ARel ρ (x ++ y) (x' ++ y') := by
  refine ⟨by simp [a.1, b.1], fun i u u' hu hu' => ?_⟩
  have := a.1
  by_cases hi : i < x.size
  · rw [Array.getElem?_append_left hi] at hu
    rw [Array.getElem?_append_left (by omega)] at hu'
    exact a.2 i u u' hu hu'
  · rw [Array.getElem?_append_right (by omega)] at hu
    rw [Array.getElem?_append_right (by omega)] at hu'
    rw [← this] at hu'
    exact b.2 _ u u' hu hu'

theorem zeroCells_size (z : Array Value) (n : Nat) : (Builtin.zeroCells z n).size = n * z.size := by simp [Builtin.zeroCells]

/-- A row that may be appended to, made anew. -/
theorem ORel.grown {ρ : Inj} {cs : List Value} {arr zs : Array Value} {e : TypeId} {m : Md} {T : Nat} (h : ARel ρ cs.toArray arr) (hT : T ≤ (arr ++ zs).size) :
    ORel ρ (.cells m .app cs e) (0, T) (some (.cells (arr ++ zs) e (0, 0))) := by
  refine .cells _ _ _ _ _ _ _ _ ?_ ?_ (fun h => by cases h) ?_
  · intro i v hv
    obtain ⟨v', h1, h2⟩ := h.get (i := i) (u := v) (by simpa using hv)
    have hlt : i < arr.size := by
      rcases Nat.lt_or_ge i arr.size with hh | hh
      · exact hh
      · rw [Array.getElem?_eq_none hh] at h1; cases h1
    exact ⟨v', by simp only [Nat.zero_add]; rw [Array.getElem?_append_left hlt]; exact h1, h2⟩
  · intro _ i _; simp
  · intro _
    exact ⟨hT, .inl rfl⟩

theorem aGrow_facts {P : Program} {h h' : AHeap} {m : Md} {e : TypeId} {sz sLen n : Nat} {old new : List Value} {v : Value} (hg : aGrow P h m e sz sLen n old new = some (v, h')) :
    ∃ z, zeroQ P e = some z ∧ z.cells.size = sz ∧ 0 < sz ∧ (sLen + n) * bytesQ P e ≤ 140737488355328 ∧ sLen + n ≤ 9223372036854775807 ∧ h.next + 1 < lim ∧ old.length = sLen * sz ∧ new.length = n * sz ∧
      v = .slice (some ⟨h.next, 0, none⟩) (sLen + n) (ucap + sz) ∧ h' = h.push (.cells m .app (old ++ new) e) := by
  unfold aGrow at hg
  split at hg
  · rename_i z hz
    obtain ⟨hb, hg⟩ := cond_some hg
    simp only [Bool.and_eq_true] at hb
    obtain ⟨⟨⟨⟨⟨⟨b1, b2⟩, b3⟩, b4⟩, b5⟩, b6⟩, b7⟩ := hb
    cases hg
    exact ⟨z, hz, by simpa using Nat.eq_of_beq_eq_true b1, blt_lt b2, Nat.le_of_ble_eq_true b3, Nat.le_of_ble_eq_true b4, blt_lt b5, Nat.eq_of_beq_eq_true b6, Nat.eq_of_beq_eq_true b7, rfl, rfl⟩
  · cases hg

theorem aGrow_sound {P : Program} {ρ : Inj} {h h' : AHeap} {w : World} (r : Rel ρ h w) {m : Md} {ty e st xt : TypeId} {d : TypeDesc} {sz n sLen k' : Nat} {x' : Value} {base : Option Addr} {old new : List Value} {olda newa : Array Value} {v : Value}
    (hg : aGrow P h m e sz sLen n old new = some (v, h')) (hf : ρ h.next = none)
    (hu : P.underlying st = some (.slice e)) (hd : P.underlying xt = some d) (hk : appKind d = true) (hsz : szQ P e = some sz)
    (hlen : ∀ w, (Builtin.lenOf x').run P w = .ok n w) (hgt : k' < sLen + n)
    (hold : ∀ w1, w1.heap = w.heap → (Builtin.firstCells sz sLen (.slice base sLen k')).run P w1 = .ok olda w1) (ro : ARel ρ old.toArray olda)
    (hnew : ∀ w1, w1.heap = w.heap → (Builtin.firstCells sz n x').run P w1 = .ok newa w1) (rn : ARel ρ new.toArray newa) :
    EffV P ρ h (Builtin.append_ #[st, xt] ty #[.slice base sLen k', x']) v h' w := by
  obtain ⟨z, hz, hzs, hpos, hb, hn, hl, ho, hnl, rfl, rfl⟩ := aGrow_facts hg
  obtain ⟨i, hi, hib⟩ := szQ_info hsz
  obtain ⟨cap, hcap, hrun⟩ := grow_run (P := P) (w := w) (ty := ty) (base := base) (old := olda) (new := newa) hu hd hk hsz hlen hgt hi (by rw [hib]; exact hb) hn
    (fun w => (run_zeroValue w hz).1) (fun d => hold _ rfl) (fun d => hnew _ rfl)
  have hcells : ARel ρ (old ++ new).toArray (olda ++ newa) := by
    have := ro.append rn
    simpa using this
  have hT : cap * sz ≤ (olda ++ newa ++ Builtin.zeroCells z.cells (cap - (sLen + n))).size := by
    have h1 := ro.1
    have h2 := rn.1
    simp only [List.size_toArray] at h1 h2
    simp only [Array.size_append, zeroCells_size, hzs, ← h1, ← h2, ho, hnl, ← Nat.add_mul]
    apply Nat.mul_le_mul_right
    omega
  have hm := Inj.add_mono (c := w.heap.size) (d := (0, cap * sz)) hf
  obtain ⟨ra, rb⟩ := r.alloc (0, cap * sz) (o := .cells m .app (old ++ new) e) (x := .cells (olda ++ newa ++ Builtin.zeroCells z.cells (cap - (sLen + n))) e)
    (w' := { w with heap := w.heap.push (.cells (olda ++ newa ++ Builtin.zeroCells z.cells (cap - (sLen + n))) e), drawn := w.drawn + 1 }) hl hf rfl (ORel.grown (hcells.mono hm) hT)
  refine ⟨_, _, _, hrun, ?_, ra, rb⟩
  have hb' : (ρ.add h.next w.heap.size (0, cap * sz)) h.next = some (w.heap.size, (0, cap * sz)) := by simp [Inj.add]
  have := VRel.slice (ρ := ρ.add h.next w.heap.size (0, cap * sz)) h.next 0 w.heap.size (0, cap * sz) (sLen + n) (ucap + sz) cap hb' (.inr ⟨Nat.le_add_right _ _, hcap, .inr (by
    rw [Nat.add_sub_cancel_left]; simp)⟩)
  simpa using this

end Go.Tw
