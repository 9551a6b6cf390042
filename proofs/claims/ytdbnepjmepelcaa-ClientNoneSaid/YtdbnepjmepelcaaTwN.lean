/- A second machine for Go's model: append, whole. Conditions: none. -/
import Derived.Test.YtdbnepjmepelcaaTwM
namespace Go.Tw

theorem skip_len : ∀ (n : Nat) (l : List Value), (skip n l).length = l.length - n
  | 0, l => by simp [skip]
  | n + 1, [] => by simp [skip]
  | n + 1, v :: r => by simp [skip, skip_len n r]

/-- The row of a slice with room goes on in place. -/
theorem inPlace_row {ρ : Inj} {m : Md} {c : List Value} {e : TypeId} {d : Ofs} {c' : Array Value} {lo hi o sz n sLen k' : Nat} {new : List Value} {newa : Array Value}
    (hc : ∀ (i : Nat) (v : Value), c[i]? = some v → ∃ v', c'[d.1 + i]? = some v' ∧ VRel ρ v v')
    (hf : m = .rw → ∀ i, i < c.length → ¬ (lo ≤ d.1 + i ∧ d.1 + i < hi))
    (ha : d.2 ≤ c'.size ∧ (lo = hi ∨ hi ≤ d.1 + c.length))
    (hfr : o + sLen * sz = c.length) (hk : d.1 + o + k' * sz ≤ d.2) (hn : sLen + n ≤ k') (hnl : new.length = n * sz) (rn : ARel ρ new.toArray newa) :
    d.1 + o + sLen * sz + newa.size ≤ c'.size ∧ (∀ j, d.1 + o + sLen * sz ≤ j → j < d.1 + o + sLen * sz + newa.size → ¬ (lo ≤ j ∧ j < hi)) ∧
    ORel ρ (.cells m .app (skip o c ++ new) e) (d.1 + o, d.2) (some (.cells (putRow c' (d.1 + o + sLen * sz) newa.toList) e (lo, hi))) := by
  have hsz : newa.size = n * sz := by have := rn.1; simp at this; omega
  have hmul : sLen * sz + n * sz ≤ k' * sz := by rw [← Nat.add_mul]; exact Nat.mul_le_mul_right _ hn
  have hfit : d.1 + o + sLen * sz + newa.size ≤ c'.size := by omega
  refine ⟨hfit, fun j h1 h2 => by have := ha.2; omega, ?_⟩
  have hlen : (skip o c ++ new).length = sLen * sz + n * sz := by simp [skip_len, hnl]; omega
  refine .cells _ _ _ _ _ _ _ _ ?_ ?_ (fun h => by cases h) ?_
  · intro i v hv
    simp only
    rw [putRow_get _ _ _ (by simpa using hfit)]
    by_cases hi : i < sLen * sz
    · rw [List.getElem?_append_left (by rw [skip_len]; omega), skip_get] at hv
      rw [if_neg (by omega)]
      obtain ⟨v', p, q⟩ := hc (o + i) v hv
      exact ⟨v', by rw [← p]; congr 1; omega, q⟩
    · rw [List.getElem?_append_right (by rw [skip_len]; omega), skip_len] at hv
      have hlt : i < sLen * sz + n * sz := by
        rcases Nat.lt_or_ge i (sLen * sz + n * sz) with hh | hh
        · exact hh
        · rw [List.getElem?_eq_none (by omega)] at hv; cases hv
      have e1 : newa.toList.length = newa.size := by simp
      rw [if_pos (by omega)]
      have e2 : i - (c.length - o) = d.1 + o + i - (d.1 + o + sLen * sz) := by omega
      rw [e2] at hv
      obtain ⟨v', p, q⟩ := rn.get (u := v) (by simpa using hv)
      exact ⟨v', by simpa using p, q⟩
  · intro hm i hi
    rw [hlen] at hi
    simp only
    by_cases h1 : i < sLen * sz
    · have := hf hm (o + i) (by omega)
      rw [← Nat.add_assoc] at this
      exact this
    · have := ha.2; omega
  · intro _
    refine ⟨by rw [putRow_size]; exact ha.1, ha.2.imp id (fun h1 => ?_)⟩
    rw [hlen]
    simp only
    omega


theorem skip_all : ∀ (n : Nat) (l : List Value), cut (l.length - n) (skip n l) = some (skip n l)
  | 0, l => by
    simp only [skip, Nat.sub_zero]
    induction l with
    | nil => rfl
    | cons v r ih => simp [cut, ih]
  | n + 1, [] => by simp [skip, cut]
  | n + 1, v :: r => by
    have := skip_all n r
    simpa [skip] using this

/-- A block is not looked into any more. -/
theorem Rel.kill {ρ : Inj} {h : AHeap} {w : World} {b c : Nat} {d : Ofs} {o : AObj} (r : Rel ρ h w) (hb : ρ b = some (c, d)) (ho : h.get b = some o) :
    Rel ρ (h.put b .dead) w ∧ Ext ρ h w ρ (h.put b .dead) w := by
  have hlt := AHeap.lt_of_get ho
  have hg : ∀ j, (h.put b .dead).get j = if j = b then some .dead else h.get j := AHeap.get_put .dead hlt r.small
  refine ⟨⟨?_, ?_, r.dom, r.small⟩, ⟨fun _ _ e => e, fun _ _ => rfl, Nat.le_refl _, Nat.le_refl _, fun _ _ _ => rfl, ?_, ?_, ?_, ⟨rfl, rfl⟩⟩⟩
  · intro b1 c1 d1 o1 h1 h2
    rw [hg] at h2
    by_cases e : b1 = b
    · rw [if_pos e] at h2; cases h2; exact .dead _ _
    · rw [if_neg e] at h2; exact r.obj b1 c1 d1 o1 h1 h2
  · intro b1 b2 c1 d1 d2 o1 o2 hne h1 h2 g1 g2 he1 hl2
    rw [hg] at g1 g2
    by_cases e1 : b1 = b
    · rw [if_pos e1] at g1; cases g1; cases he1
    · rw [if_neg e1] at g1
      by_cases e2 : b2 = b
      · rw [if_pos e2] at g2; cases g2; cases hl2
      · rw [if_neg e2] at g2
        exact r.sep b1 b2 c1 d1 d2 o1 o2 hne h1 h2 g1 g2 he1 hl2
  · intro b1 hb1 hn
    rw [hg, if_neg (fun e => by subst e; rw [hb] at hn; cases hn)]
  · rintro c1 ⟨b1, d1, o1, h1, g1, he1⟩ _
    rw [hg] at g1
    by_cases e1 : b1 = b
    · rw [if_pos e1] at g1; cases g1; cases he1
    · rw [if_neg e1] at g1; exact ⟨b1, d1, o1, h1, g1, he1⟩
  · rintro c1 ⟨b1, d1, o1, h1, g1, he1⟩ _
    rw [hg] at g1
    by_cases e1 : b1 = b
    · rw [if_pos e1] at g1; cases g1; cases he1
    · rw [if_neg e1] at g1; exact ⟨b1, d1, o1, h1, g1, he1⟩

theorem EffV.same {P : Program} {ρ : Inj} {h : AHeap} {w : World} (r : Rel ρ h w) {s : Sem Value} {v v' : Value} (hr : s.run P w = .ok v' w) (rv : VRel ρ v v') : EffV P ρ h s v h w :=
  ⟨v', w, ρ, hr, rv, r, Ext.refl _ _ _⟩

set_option maxHeartbeats 1000000 in
theorem aApp_sound {P : Program} {ρ : Inj} {h h' : AHeap} {w : World} (r : Rel ρ h w) {ty e st xt : TypeId} {d : TypeDesc} {s s' x x' v : Value}
    (hl : aApp P h e s x = some (v, h')) (hf : Free ρ h h') (hu : P.underlying st = some (.slice e)) (hd : P.underlying xt = some d) (hk : appKind d = true)
    (rs : VRel ρ s s') (rx : VRel ρ x x') : EffV P ρ h (Builtin.append_ #[st, xt] ty #[s', x']) v h' w := by
  unfold aApp at hl
  split at hl
  · rename_i sz n hsz hlen
    have hlenr := lenV_any (P := P) hlen rx
    split at hl
    · rename_i new hnew
      obtain ⟨newa, hn1, rn⟩ := srcCells_all (P := P) r hnew rx
      split at hl
      · rename_i sLen k
        obtain ⟨hb, hl⟩ := cond_some hl
        rw [Bool.and_eq_true] at hb
        have e1 := Nat.eq_of_beq_eq_true hb.1
        have e2 := Nat.eq_of_beq_eq_true hb.2
        subst e1; subst e2
        cases rs
        cases hn0 : Nat.beq n 0 with
        | true =>
          have := Nat.eq_of_beq_eq_true hn0
          subst this
          simp at hl
          obtain ⟨rfl, rfl⟩ := hl
          exact .same r (fits_run (P := P) hu hd hk hsz hlenr (Nat.le_refl _) (hn1 w rfl) rfl) (.sliceNil _ _)
        | false =>
          rw [hn0] at hl
          simp only [cond_false] at hl
          have hpos : 0 < n := by
            rcases Nat.eq_zero_or_pos n with hz | hz
            · subst hz; simp at hn0
            · exact hz
          have hnx : ρ h.next = none := by
            obtain ⟨_, _, _, _, _, _, _, _, _, _, rfl⟩ := aGrow_facts hl
            exact hf h.next (Nat.le_refl _) (by simp [AHeap.push])
          exact aGrow_sound (olda := #[]) (newa := newa) r hl hnx hu hd hk hsz hlenr (by omega) (fun _ _ => rfl) (ARel.nil ρ) hn1 rn
      · rename_i b o sLen k
        cases hku : Nat.blt k ucap with
        | true =>
          have hku' := blt_lt hku
          simp only [hku, cond_true] at hl
          cases rs with
          | wild a a' k' hs => exact absurd hku' (Nat.lt_irrefl _)
          | slice b o c d n0 k k' hρ hkk =>
          obtain ⟨_, rfl⟩ := hkk.resolve_right (fun e => by omega)
          cases hle : Nat.ble (sLen + n) k with
          | true =>
            have hle' := Nat.le_of_ble_eq_true hle
            simp only [hle, cond_true] at hl
            split at hl
            · rename_i h2 hst
              cases hl
              obtain ⟨w', q1, q2, q3, _⟩ := astore_sound P r (l' := newa.toList) hst (.ptr b (o + sLen * sz) c d hρ) (by simpa using rn)
              have hadd : (⟨c, d.1 + o, none⟩ : Addr).add (sLen * sz) = ⟨c, d.1 + (o + sLen * sz), none⟩ := by rw [Addr.add_none, Nat.add_assoc]
              exact ⟨_, w', ρ, fits_run (P := P) hu hd hk hsz hlenr hle' (hn1 w rfl) (by simp only [hadd]; exact q1), .slice _ _ _ _ _ _ _ hρ (.inl ⟨hku', rfl⟩), q2, q3⟩
            · cases hl
          | false =>
            have hgt : k < sLen + n := by
              rcases Nat.lt_or_ge k (sLen + n) with hh | hh
              · exact hh
              · rw [Nat.ble_eq_true_of_le hh] at hle; cases hle
            simp only [hle, cond_false] at hl
            split at hl
            · rename_i old hold
              obtain ⟨olda, ho1, ro, _⟩ := aload_all P r hold (.ptr b o c d hρ)
              have hnx : ρ h.next = none := by
                obtain ⟨_, _, _, _, _, _, _, _, _, _, rfl⟩ := aGrow_facts hl
                exact hf h.next (Nat.le_refl _) (by simp [AHeap.push])
              exact aGrow_sound r hl hnx hu hd hk hsz hlenr hgt (fun w1 e1 => by simp only [Builtin.firstCells]; exact ho1 w1 e1) ro hn1 rn
            · cases hl
        | false =>
          have hku' : ucap ≤ k := by
            rcases Nat.lt_or_ge k ucap with hh | hh
            · have : Nat.blt k ucap = true := Nat.ble_eq_true_of_le hh
              rw [this] at hku; cases hku
            · exact hh
          simp only [hku, cond_false] at hl
          cases hn0 : Nat.beq n 0 with
          | true =>
            have := Nat.eq_of_beq_eq_true hn0
            subst this
            simp only [Nat.beq_refl, cond_true] at hl
            cases hl
            cases rs with
            | wild a a' k' hs => simp at hs
            | slice b o c d n0 k k' hρ hkk =>
            obtain ⟨_, hk2, hk3⟩ := hkk.resolve_left (fun e => by omega)
            have hnewa : newa = #[] := by
              obtain ⟨arr, q1, q2⟩ := srcCells_all (P := P) r hnew rx
              have hnl : new = [] := by
                unfold srcCells at hnew
                split at hnew
                · simp at hnew; exact hnew
                · simp at hnew; exact hnew
                · obtain ⟨hb, hnew⟩ := cond_some hnew
                  cases hnew
                  rename_i s0
                  have := Nat.eq_of_beq_eq_true hb
                  unfold strLen at this
                  rw [List.length_eq_zero_iff.1 this.symm]
                  rfl
                · cases hnew
              subst hnl
              have := rn.1
              simpa using this.symm
            subst hnewa
            exact .same r (fits_run (P := P) hu hd hk hsz hlenr (by omega) (hn1 w rfl) (by simp [storeCells])) (.slice _ _ _ _ _ _ _ hρ (.inr ⟨hku', hk2, hk3⟩))
          | false =>
            rw [hn0] at hl
            simp only [cond_false] at hl
            have hpos : 0 < n := by
              rcases Nat.eq_zero_or_pos n with hz | hz
              · subst hz; simp at hn0
              · exact hz
            obtain ⟨hb, hl⟩ := cond_some hl
            have hks := Nat.eq_of_beq_eq_true hb
            split at hl
            · rename_i m cs e' hg
              have hl2 := cond_some hl
              clear hl
              obtain ⟨hb2, hl⟩ := hl2
              simp only [Bool.and_eq_true] at hb2
              obtain ⟨⟨⟨b1, b2⟩, b3⟩, b4⟩ := hb2
              have b2 := Nat.eq_of_beq_eq_true b2
              have b3 := Nat.eq_of_beq_eq_true b3
              subst b2
              split at hl
              · rename_i old hold
                obtain ⟨z, g1, g2, g3, g4, g5, g6, g7, g8, rfl, rfl⟩ := aGrow_facts hl
                have hnext : (h.put b .dead).next = h.next := rfl
                have hnx : ρ h.next = none := hf h.next (Nat.le_refl _) (by simp [AHeap.push, AHeap.put])
                have holdk : old = skip o cs := by
                  have hh := hold
                  unfold aload at hh
                  simp only [hg] at hh
                  have e1 : sLen * sz = cs.length - o := by omega
                  rw [e1, skip_all] at hh
                  cases hh
                  rfl
                cases rs with
                | wild a a' k' hs => simp at hs
                | slice b o c d n0 k k' hρ hkk =>
                obtain ⟨_, hk2, hk3⟩ := hkk.resolve_left (fun e => by omega)
                have hcap : d.1 + o + k' * sz ≤ d.2 := by
                  rcases hk3 with hk3 | hk3
                  · omega
                  · rw [hks, Nat.add_sub_cancel_left] at hk3; exact hk3
                obtain ⟨c', lo, hi, hw, hc, hfz, _, _, hap⟩ := (r.obj _ _ _ _ hρ hg).cellsOf
                obtain ⟨olda, ho1, ro, _⟩ := aload_all P r hold (.ptr b o c d hρ)
                by_cases hfit : sLen + n ≤ k'
                · have hm := Inj.add_mono (c := c) (d := (d.1 + o, d.2)) hnx
                  obtain ⟨q1, q2, q3⟩ := inPlace_row (e := e) (fun i v hv => let ⟨v', p, q⟩ := hc i v hv; ⟨v', p, q.mono hm⟩) hfz (hap rfl) b3 hcap hfit g8 (rn.mono hm)
                  rw [← holdk] at q3
                  have hone' : ∀ v, v ∈ newa.toList → v.oneCell' = true := by
                    intro u hu'
                    obtain ⟨i, hi', hi2⟩ := List.getElem_of_mem hu'
                    have hsz' : new.length = newa.toList.length := by have := rn.1; simpa using this
                    have hil : i < new.length := by omega
                    exact oneC_rel (rn.2 i new[i] u (by simp [List.getElem?_eq_getElem hil]) (by rw [← Array.getElem?_toList, List.getElem?_eq_getElem hi', hi2]))
                      (allOne_get b4 i _ (List.getElem?_eq_getElem hil))
                  obtain ⟨w', hr, hw'⟩ := storeCells_run P (o := d.1 + o + sLen * sz) newa.toList 0 w c' hw (by simpa using q1) hone' (fun j p1 p2 => q2 j (by omega) (by simpa using p2))
                  obtain ⟨ra, rb⟩ := r.renew (o' := .cells m .app (old ++ new) e) (d' := (d.1 + o, d.2)) g6 hnx hρ hg (by cases m <;> simp_all [notRo, AObj.excl]) hw' q3
                  have hadd : (⟨c, d.1 + o, none⟩ : Addr).add (sLen * sz) = ⟨c, d.1 + o + sLen * sz, none⟩ := by rw [Addr.add_none]
                  have hb' : (ρ.add h.next c (d.1 + o, d.2)) h.next = some (c, (d.1 + o, d.2)) := by simp [Inj.add]
                  exact ⟨_, w', _, fits_run (P := P) hu hd hk hsz hlenr hfit (hn1 w rfl) (by simp only [hadd]; exact hr),
                    .slice h.next 0 c (d.1 + o, d.2) (sLen + n) (ucap + sz) k' hb' (.inr ⟨Nat.le_add_right _ _, hfit, .inr (by rw [Nat.add_sub_cancel_left]; exact hcap)⟩), ra, rb⟩
                · obtain ⟨ka, kb⟩ := r.kill hρ hg
                  obtain ⟨v', w', ρ', e1, e2, e3, e4⟩ := aGrow_sound (base := some ⟨c, d.1 + o, none⟩) (k' := k') (ty := ty) ka hl hnx hu hd hk hsz hlenr (by omega)
                    (fun w1 e1 => by simp only [Builtin.firstCells]; exact ho1 w1 e1) ro hn1 rn
                  exact ⟨v', w', ρ', e1, e2, e3, kb.trans e4⟩
              · cases hl
            · cases hl
      · cases hl
    · cases hl
  · cases hl

end Go.Tw
