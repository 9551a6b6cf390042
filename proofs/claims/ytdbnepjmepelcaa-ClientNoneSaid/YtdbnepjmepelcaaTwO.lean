/- A second machine for Go's model: package unsafe, as strings.Builder uses it. Conditions: none. -/
import Derived.Test.YtdbnepjmepelcaaTwN
namespace Go.Tw

def aSliceData (x : Value) : Option Value :=
  match x with
  | .slice none _ _ => some (.pointer none)
  | .slice (some ⟨b, o, none⟩) n k => cond (cond (Nat.blt k ucap) (Nat.blt 0 k) (Nat.blt 0 n)) (some (.pointer (some ⟨b, o, none⟩))) none
  | _ => none

theorem aSliceData_sound {P : Program} {ρ : Inj} {x x' v : Value} {ts : Array TypeId} {ty : TypeId} (h : aSliceData x = some v) (rx : VRel ρ x x') (w : World) :
    ∃ v', (Builtin.unsafeSliceData_ ts ty #[x']).run P w = .ok v' w ∧ VRel ρ v v' := by
  unfold aSliceData at h
  split at h
  · cases h; cases rx
    exact ⟨_, rfl, .ptrNil⟩
  · rename_i b o n k
    obtain ⟨hb, h⟩ := cond_some h
    cases h
    cases rx with
    | wild a a' k' hs => simp at hs
    | slice b o c d n k k' hρ hk =>
    refine ⟨_, ?_, .ptr _ _ _ _ hρ⟩
    have : k' ≠ 0 := by
      rcases hk with ⟨h1, rfl⟩ | ⟨h1, h2, _⟩
      · have e : Nat.blt k ucap = true := Nat.ble_eq_true_of_le h1
        rw [e] at hb
        have := blt_lt (a := 0) hb
        omega
      · have e : Nat.blt k ucap = false := by
          cases hh : Nat.blt k ucap
          · rfl
          · have := blt_lt hh; omega
        rw [e] at hb
        have := blt_lt (a := 0) hb
        omega
    have e1 : Builtin.unsafeSliceData_ ts ty #[.slice (some ⟨c, d.1 + o, none⟩) n k'] = (if k' ≠ 0 then pure (.pointer (some ⟨c, d.1 + o, none⟩))
        else do
          if (← viewAt c).isSome then pure (.pointer (some ⟨c, d.1 + o, none⟩))
          else pure (.pointer (some ⟨← newObj (.view ⟨c, d.1 + o, none⟩ (← elemOf ty)), 0, none⟩))) := rfl
    rw [e1, if_pos this]
    rfl
  · cases h

def aUnsafe (P : Program) (h : AHeap) (src dst : TypeId) (x : Value) : Option Value :=
  match P.underlying src, P.underlying dst, x with
  | some (.pointer _), some .unsafePointer, .pointer none => some x
  | some .unsafePointer, some (.pointer _), .pointer none => some x
  | some (.pointer t), some .unsafePointer, .pointer (some ⟨b, o, none⟩) => match h.get b, szQ P t with
    | some (.cells _ _ c _), some (_ + 1) => cond (Nat.blt o c.length) (some x) none
    | _, _ => none
  | some .unsafePointer, some (.pointer u), .pointer (some ⟨b, o, none⟩) => match h.get b, szQ P u with
    | some (.cells _ .exact c e), some (_ + 1) => cond (liesAt P P.depth e (c.length / P.cellsOf e) o u 1) (some x) none
    | _, _ => none
  | _, _, _ => none

theorem viewAt_cells {P : Program} {w : World} {c : Nat} {arr : Array Value} {e : TypeId} {fr : Nat × Nat} (h : w.heap[c]? = some (.cells arr e fr)) : (viewAt c).run P w = .ok none w := by
  simp [viewAt, World.shape?, h]

theorem seenAt_cells {P : Program} {w : World} {a : Addr} {arr : Array Value} {e : TypeId} {fr : Nat × Nat} (h : w.heap[a.block]? = some (.cells arr e fr)) : (Conv.seenAt a).run P w = .ok a w := by
  simp [Conv.seenAt, viewAt_cells h]

theorem variablesAt_run {P : Program} {w : World} {a : Addr} {arr : Array Value} {e u : TypeId} {n : Nat} {fr : Nat × Nat} (h : w.heap[a.block]? = some (.cells arr e fr)) :
    (variablesAt a u n).run P w = .ok (liesAt P P.depth e (arr.size / P.cellsOf e) a.off u n) w := by
  simp [variablesAt, World.shape?, h]

theorem aUnsafe_sound {P : Program} {ρ : Inj} {h : AHeap} {w : World} (r : Rel ρ h w) {src dst : TypeId} {x x' v : Value} (hl : aUnsafe P h src dst x = some v) (rx : VRel ρ x x') :
    ∃ v', (convert src dst x').run P w = .ok v' w ∧ VRel ρ v v' := by
  unfold aUnsafe at hl
  split at hl
  · rename_i h1 h2
    cases hl; cases rx
    exact ⟨_, by simp [convert, run_underlying h1, run_underlying h2, Conv.unsafePointer], .ptrNil⟩
  · rename_i h1 h2
    cases hl; cases rx
    exact ⟨_, by simp [convert, run_underlying h1, run_underlying h2, Conv.unsafePointer], .ptrNil⟩
  · rename_i t b o h1 h2
    split at hl
    · rename_i m ex cs e n hg hn
      obtain ⟨hb, hl⟩ := cond_some hl
      have hb := blt_lt hb
      cases hl
      cases rx with
      | ptr b o c d hρ =>
      obtain ⟨c', lo, hi, hw, _, _, _, hsz, _⟩ := (r.obj _ _ _ _ hρ hg).cellsOf
      have hne : cs ≠ [] := by intro e; subst e; simp at hb
      have := hsz hne
      have hlt : ¬ (d.1 + o ≥ c'.size) := by omega
      refine ⟨_, ?_, .ptr b o c d hρ⟩
      simp only [convert, Sem.run_bind, run_underlying h1, run_underlying h2, Result.andThen_ok, Conv.unsafePointer]
      rw [seenAt_cells (a := ⟨c, d.1 + o, none⟩) hw]
      simp [cellsIn, World.shape?, hw, run_sizeOf w hn, hlt]
    · cases hl
  · rename_i u b o h1 h2
    split at hl
    · rename_i m cs e n hg hn
      obtain ⟨hb, hl⟩ := cond_some hl
      cases hl
      cases rx with
      | ptr b o c d hρ =>
      obtain ⟨c', lo, hi, hw, _, _, hx, hsz, _⟩ := (r.obj _ _ _ _ hρ hg).cellsOf
      obtain ⟨hd, hcs⟩ := hx rfl
      have hv : (variablesAt ⟨c, d.1 + o, none⟩ u 1).run P w = .ok true w := by
        rw [variablesAt_run (a := ⟨c, d.1 + o, none⟩) hw]
        simp only [hcs, hd, Nat.zero_add, hb]
      refine ⟨_, ?_, .ptr b o c d hρ⟩
      simp only [convert, Sem.run_bind, run_underlying h1, run_underlying h2, Result.andThen_ok, Conv.unsafePointer]
      rw [seenAt_cells (a := ⟨c, d.1 + o, none⟩) hw]
      simp [run_sizeOf w hn, hv]
    · cases hl
  · cases hl

/-! A builder's bytes become a string. -/
theorem loadBytes_run (P : Program) {w : World} {c : Nat} {arr : Array Value} {e : TypeId} {fr : Nat × Nat} (h : w.heap[c]? = some (.cells arr e fr)) :
    ∀ (ns : List Nat) (o : Nat) (acc : ByteArray), (∀ i n, ns[i]? = some n → arr[o + i]? = some (.int .u8 (.ofNat n))) →
      (loadBytes ⟨c, o, none⟩ acc ns.length).run P w = .ok ⟨⟨acc.data.toList ++ ns.map UInt8.ofNat⟩⟩ w
  | [], o, acc, _ => by simp [loadBytes]
  | n :: ns, o, acc, hg => by
    have h0 := hg 0 n (by simp)
    simp only [List.length_cons, loadBytes, Sem.run_bind, run_load, cell_at h]
    rw [show arr[o]? = some (.int .u8 (.ofNat n)) from h0]
    simp only [Result.andThen_ok, Addr.add_none]
    have e1 : (acc.push (Int.ofNat n).toNat.toUInt8).data.toList = acc.data.toList ++ [UInt8.ofNat n] := by
      obtain ⟨⟨x⟩⟩ := acc
      simp [ByteArray.push]
    rw [loadBytes_run P h ns (o + 1) _ (fun i m hm => by
      have := hg (i + 1) m (by simpa using hm)
      rw [show o + 1 + i = o + (i + 1) from by omega]
      exact this), e1]
    simp

def aUString (P : Program) (h : AHeap) (ts : Array TypeId) (p n : Value) : Option (Value × AHeap) :=
  match ts[0]?, p, n with
  | some _, .pointer _, .int _ (.ofNat 0) => some (.string ⟨⟨[]⟩⟩, h)
  | some pt, .pointer (some ⟨b, o, none⟩), .int _ (.ofNat (n + 1)) => match P.underlying pt, h.get b with
    | some (.pointer u), some (.cells m ex c e) => cond (notRo m && Nat.beq (P.cellsOf e) 1 && sameLayout P P.depth e u && Nat.ble (n + 1) 9223372036854775807)
      (match cut (n + 1) (skip o c) with
        | some l => match toBytes l with
          | some bs => some (.string ⟨⟨bs⟩⟩, h.put b (.cells .fz ex c e))
          | none => none
        | none => none) none
    | _, _ => none
  | _, _, _ => none

theorem depth_succ (P : Program) : ∃ k, P.depth = k + 1 := ⟨2 * (P.types.size + Made.depth) + 1, rfl⟩

theorem liesAt_row {P : Program} {e u : TypeId} {count off n : Nat} (h1 : P.cellsOf e = 1) (h2 : sameLayout P P.depth e u = true) (h3 : off + n ≤ count) :
    liesAt P P.depth e count off u n = true := by
  have hrow : rowAt P (fun x => sameLayout P P.depth x u) P.depth e count off n = true := by
    obtain ⟨k, hk⟩ := depth_succ P
    rw [hk] at h2 ⊢
    simp only [rowAt, h1, Nat.div_one, Nat.mod_one]
    simp [h2, h3]
  obtain ⟨k, hk⟩ := depth_succ P
  rw [hk] at hrow ⊢
  simp only [liesAt]
  rw [hk, hrow]
  rfl

theorem freeze_heap {w : World} {c o n : Nat} {arr : Array Value} {e : TypeId} {lo hi : Nat} (h : w.heap[c]? = some (.cells arr e (lo, hi))) (hn : n ≠ 0) :
    (w.freeze ⟨c, o, none⟩ n).heap = w.heap.setIfInBounds c (.cells arr e (if lo == hi then (o, o + n) else (min lo o, max hi (o + n)))) := by
  unfold World.freeze
  rw [if_neg hn]
  apply Array.ext_getElem?
  intro j
  simp only [Array.getElem?_modify, Array.getElem?_setIfInBounds]
  by_cases e' : c = j
  · subst e'
    have hc : c < w.heap.size := by
      rcases Nat.lt_or_ge c w.heap.size with hh | hh
      · exact hh
      · simp [Array.getElem?_eq_none hh] at h
    rw [Array.getElem?_eq_getElem hc, Option.some.injEq] at h
    simp [h, hc]
  · simp [e']

theorem aUString_sound {P : Program} {ρ : Inj} {h h' : AHeap} {w : World} (r : Rel ρ h w) {ts : Array TypeId} {ty : TypeId} {p p' n n' v : Value} (hl : aUString P h ts p n = some (v, h'))
    (rp : VRel ρ p p') (rn : VRel ρ n n') : EffV P ρ h (Builtin.unsafeString_ ts ty #[p', n']) v h' w := by
  unfold aUString at hl
  split at hl
  · rename_i t a k ht
    cases hl
    cases rn
    refine .same r ?_ (.string _)
    have hm : ¬ (IntKind.i64.max < (0 : Int)) := by rw [IntKind.max_i64]; omega
    cases rp with
    | ptrNil =>
      have e1 : Builtin.unsafeString_ ts ty #[.pointer none, .int k (.ofNat 0)] = asInt (.int k (.ofNat 0)) >>= _ := rfl
      rw [e1]
      simp [asInt, asIntOf, ht]; rfl
    | ptr b o c d hρ =>
      have e1 : Builtin.unsafeString_ ts ty #[.pointer (some ⟨c, d.1 + o, none⟩), .int k (.ofNat 0)] = asInt (.int k (.ofNat 0)) >>= _ := rfl
      rw [e1]
      simp [asInt, asIntOf, ht]; rfl
  · rename_i pt b o k n ht
    split at hl
    · rename_i u m ex cs e hu hg
      obtain ⟨hb, hl⟩ := cond_some hl
      simp only [Bool.and_eq_true] at hb
      obtain ⟨⟨⟨b1, b2⟩, b3⟩, b4⟩ := hb
      have b2 := Nat.eq_of_beq_eq_true b2
      have b4 := Nat.le_of_ble_eq_true b4
      split at hl
      · rename_i l hcut
        split at hl
        · rename_i bs hbs
          cases hl
          cases rn
          cases rp with
          | ptr b o c d hρ =>
          obtain ⟨c', lo, hi, hw, hc, hfz, hx, hsz, hap⟩ := (r.obj _ _ _ _ hρ hg).cellsOf
          have hal : aload h ⟨b, o, none⟩ (n + 1) = some l := by simp [aload, hg, hcut]
          obtain ⟨arr, q1, q2, q3⟩ := aload_sound P r hal (.ptr b o c d hρ)
          obtain ⟨t1, ns, t2, t3⟩ := toBytes_rel hbs q2
          obtain ⟨l1, l2⟩ := cut_some hcut
          have hlen : ns.length = n + 1 := by rw [← l1, t2, List.length_map]
          have hin : o + (n + 1) ≤ cs.length := by
            have := l2 n (by omega)
            rw [skip_get, List.getElem?_eq_getElem (by omega)] at this
            rcases Nat.lt_or_ge (o + n) cs.length with hh | hh
            · omega
            · rw [List.getElem?_eq_none (by omega)] at this; cases this
          have hne : cs ≠ [] := by intro e; subst e; simp at hin
          have hfit := hsz hne
          have hcell : ∀ i m, ns[i]? = some m → c'[d.1 + o + i]? = some (.int .u8 (.ofNat m)) := by
            intro i m hm
            have hi : i < n + 1 := by
              rcases Nat.lt_or_ge i (n + 1) with hh | hh
              · exact hh
              · rw [List.getElem?_eq_none (by omega)] at hm; cases hm
            have e1 := l2 i hi
            rw [skip_get, t2, List.getElem?_map, hm] at e1
            obtain ⟨v', g1, g2⟩ := hc (o + i) _ e1.symm
            cases g2
            rw [Nat.add_assoc]; exact g1
          have hlb := loadBytes_run P hw ns (d.1 + o) ByteArray.empty hcell
          rw [hlen] at hlb
          have hlies : liesAt P P.depth e (c'.size / P.cellsOf e) (d.1 + o) u (n + 1) = true := by
            apply liesAt_row b2 b3
            rw [b2, Nat.div_one]; omega
          have hvar : (variablesAt ⟨c, d.1 + o, none⟩ u (n + 1)).run P w = .ok true w := by
            rw [variablesAt_run (a := ⟨c, d.1 + o, none⟩) hw, hlies]
          have hfh := freeze_heap (o := d.1 + o) (n := n + 1) hw (by omega)
          obtain ⟨ra, rb⟩ := r.write (o' := .cells .fz ex cs e) (w' := w.freeze ⟨c, d.1 + o, none⟩ (n + 1)) hρ hg (by cases m <;> simp_all [notRo, AObj.excl]) (HeapIs.of hfh ⟨by simp [World.freeze], by simp [World.freeze]⟩) (by
            obtain ⟨lo', hi', hfr⟩ : ∃ lo' hi', (if lo == hi then (d.1 + o, d.1 + o + (n + 1)) else (min lo (d.1 + o), max hi (d.1 + o + (n + 1)))) = (lo', hi') := ⟨_, _, rfl⟩
            rw [hfr]
            refine .cells _ _ _ _ _ _ _ _ hc (fun h => by cases h) hx (fun hxx => ?_)
            obtain ⟨p1, p2⟩ := hap hxx
            refine ⟨p1, .inr ?_⟩
            by_cases e1 : lo = hi
            · subst e1; simp at hfr; omega
            · have : (lo == hi) = false := by simpa using e1
              rw [this] at hfr
              simp at hfr
              have := p2.resolve_left e1
              omega)
          refine ⟨_, _, ρ, ?_, .string _, ra, rb⟩
          have hm : ¬ (IntKind.i64.max < ((n + 1 : Nat) : Int)) := by rw [IntKind.max_i64]; omega
          have hneg : ¬ (((n + 1 : Nat) : Int) < 0) := by omega
          have hz : ¬ (((n + 1 : Nat) : Int) = 0) := by omega
          have hel : (elemOf pt).run P w = .ok u w := by simp [elemOf, run_underlying hu]
          have t4 : bs = ByteArray.empty.data.toList ++ ns.map UInt8.ofNat := by rw [t3]; rfl
          have e1 : Builtin.unsafeString_ ts ty #[.pointer (some ⟨c, d.1 + o, none⟩), .int k (.ofNat (n + 1))] = asInt (.int k (.ofNat (n + 1))) >>= _ := rfl
          rw [e1]
          simp only [asInt, asIntOf, ht, Sem.run_bind, Sem.run_pure, Result.andThen_ok, Int.ofNat_eq_natCast]
          rw [if_neg hneg, if_neg hm, if_neg hz]
          simp only [Int.toNat_natCast, Sem.run_bind, hel, Result.andThen_ok, hvar, if_true, hlb, run_freeze, Sem.run_pure, ← t4]
        · cases hl
      · cases hl
    · cases hl
  · cases hl

end Go.Tw
