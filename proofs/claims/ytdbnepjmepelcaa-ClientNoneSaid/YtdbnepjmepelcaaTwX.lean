/- A second machine for Go's model: code is what the model's machine does. Conditions: none. -/
import Derived.Test.YtdbnepjmepelcaaTwW
namespace Go.Tw

theorem next_aCode {env : Env} {lo : Lo} (hlo : LoOk env.P lo) (hdr : DrawSound env lo) {fn : FuncId} {round : Option Nat} : ∀ (n : Nat) {c : Code} {st st' : St} {e : AExit},
    aCode env lo fn round n c st = some (e, st') → st.h.next ≤ st'.h.next
  | 0, _, _, _, _, h => by cases h
  | n + 1, c, st, st', e, h => by
    have ih : ∀ {c : Code} {st st' : St} {e : AExit}, aCode env lo fn round n c st = some (e, st') → st.h.next ≤ st'.h.next := fun h => next_aCode hlo hdr n h
    unfold aCode at h
    cases c with
    | skip => cases h; exact Nat.le_refl _
    | label l => cases h; exact Nat.le_refl _
    | seq x y =>
      simp only at h
      split at h
      · rename_i st1 h1
        exact Nat.le_trans (ih h1) (ih h)
      · exact ih h
    | cond c x y =>
      simp only at h
      split at h
      · exact ih h
      · cases h
    | block id x =>
      simp only at h
      split at h
      · rename_i h1
        cases h
        exact ih h1
      · exact ih h
    | loop x =>
      simp only at h
      split at h
      · rename_i st1 h1
        exact Nat.le_trans (ih h1) (ih h)
      · exact ih h
    | scope x =>
      simp only at h
      split at h
      · rename_i h1
        split at h
        · cases h
        · cases h
          exact ih h1
      · exact ih h
    | exit id => cases h; exact Nat.le_refl _
    | goto l => cases h; exact Nat.le_refl _
    | ret => cases h; exact Nat.le_refl _
    | region id ops draw =>
      simp only at h
      split at h
      · rename_i st1 h1
        cases h
        cases draw with
        | true => exact (hdr _ _ _ h1).1
        | false => exact next_aSeq hlo h1
      · cases h
    | rangeFunc f ps assign body =>
      simp only at h
      split at h
      · rename_i h1
        split at h
        · rename_i h2
          have a1 := next_aEnterLoop h1
          have a2 := (hlo.call _ _ _ _ _ h2).1
          have a3 := next_aEndLoop h
          simp only at a3
          omega
        · cases h
      · cases h
    | refuse s => cases h

theorem lone_todo {b : Frame} {a a' : Act} {k k' : List Item} {cs cs' : List Frame} {w w' : World} (h : lone (fat b a k) cs w = lone (fat b a' k') cs' w') : k = k' := by
  simp only [lone, Machine.mk.injEq, fat] at h
  simpa using congrArg (fun g : Array Goroutine => g.toList.map (fun x => x.frame.todo)) h.2.1

theorem Steps.tail' {P : Program} {m m1 m' : Machine} (h : Steps P m m') (h1 : step P m = .next m1) (hne : m ≠ m') : Steps P m1 m' := by
  obtain ⟨n, hn⟩ := h
  cases n with
  | zero => simp [runN] at hn; exact (hne hn).elim
  | succ n => exact ⟨n, by simpa [runN, h1] using hn⟩

theorem aCode_sound {env : Env} (henv : EnvOk env) {lo : Lo} (hlo : LoOk env.P lo) (hdr : DrawSound env lo) {fn : FuncId} {round : Option Nat} : ∀ (n : Nat) {c : Code} {st st' : St} {e : AExit},
    aCode env lo fn round n c st = some (e, st') → ∀ {ρ : Inj} {a : Act} {w : World} {b : Frame}, b.fn = fn → kindOk b round ρ → SRel ρ st a w → Free ρ st.h st'.h →
    ∃ a' w' ρ', SRel ρ' st' a' w' ∧ Ext ρ st.h w ρ' st'.h w' ∧ CodeTo env.P b a c w e a' w'
  | 0, _, _, _, _, h, _, _, _, _, _, _, _, _ => by cases h
  | n + 1, c, st, st', e, h, ρ, a, w, b, hfn, hk, r, hf => by
    have ih : ∀ {c : Code} {st st' : St} {e : AExit}, aCode env lo fn round n c st = some (e, st') → ∀ {ρ : Inj} {a : Act} {w : World} {b : Frame}, b.fn = fn → kindOk b round ρ → SRel ρ st a w → Free ρ st.h st'.h →
      ∃ a' w' ρ', SRel ρ' st' a' w' ∧ Ext ρ st.h w ρ' st'.h w' ∧ CodeTo env.P b a c w e a' w' := fun h => aCode_sound henv hlo hdr n h
    have nx : ∀ {c : Code} {st st' : St} {e : AExit}, aCode env lo fn round n c st = some (e, st') → st.h.next ≤ st'.h.next := fun h => next_aCode hlo hdr n h
    unfold aCode at h
    cases c with
    | skip => cases h; exact ⟨a, w, ρ, r, Ext.refl _ _ _, fun k cs => Steps.one fs_skip⟩
    | label l => cases h; exact ⟨a, w, ρ, r, Ext.refl _ _ _, fun k cs => Steps.one fs_label⟩
    | seq x y =>
      simp only at h
      split at h
      · rename_i st1 h1
        obtain ⟨a1, w1, ρ1, r1, e1, c1⟩ := ih h1 hfn hk r (hf.left (nx h))
        obtain ⟨a2, w2, ρ2, r2, e2, c2⟩ := ih h hfn (hk.mono e1.mono) r1 (hf.right e1)
        refine ⟨a2, w2, ρ2, r2, e1.trans e2, fun k cs => ?_⟩
        have s1 := Steps.head (fs_seq (P := env.P) (b := b) (a := a) (k := k) (cs := cs) (w := w) (x := x) (y := y)) (c1 (.code y :: k) cs)
        have s2 := c2 k cs
        cases e with
        | norm => exact s1.trans s2
        | exit id => obtain ⟨todo, s2, t2⟩ := s2; exact ⟨todo, s1.trans s2, t2⟩
        | goto l => obtain ⟨todo, s2, t2⟩ := s2; exact ⟨todo, s1.trans s2, t2⟩
        | ret => obtain ⟨todo, s2⟩ := s2; exact ⟨todo, s1.trans s2⟩
      · rename_i hne
        obtain ⟨a1, w1, ρ1, r1, e1, c1⟩ := ih h hfn hk r hf
        refine ⟨a1, w1, ρ1, r1, e1, fun k cs => ?_⟩
        have s0 := fs_seq (P := env.P) (b := b) (a := a) (k := k) (cs := cs) (w := w) (x := x) (y := y)
        have s2 := c1 (.code y :: k) cs
        cases e with
        | norm => exact (hne _ h).elim
        | exit id => obtain ⟨todo, s2, t2⟩ := s2; exact ⟨todo, Steps.head s0 s2, t2⟩
        | goto l => obtain ⟨todo, s2, t2⟩ := s2; exact ⟨todo, Steps.head s0 s2, t2⟩
        | ret => obtain ⟨todo, s2⟩ := s2; exact ⟨todo, Steps.head s0 s2⟩
    | cond c x y =>
      simp only at h
      split at h
      · rename_i t ht
        have ht' : a.eval c = .bool t := by
          have := aEval_sound r.T _ _ ht
          generalize a.eval c = y at this
          cases this
          rfl
        obtain ⟨a1, w1, ρ1, r1, e1, c1⟩ := ih h hfn hk r hf
        refine ⟨a1, w1, ρ1, r1, e1, fun k cs => ?_⟩
        have s0 := fs_cond (P := env.P) (b := b) (a := a) (k := k) (cs := cs) (w := w) (x := x) (y := y) ht'
        rw [show (if t = true then x else y) = cond t x y by cases t <;> rfl] at s0
        have s2 := c1 k cs
        cases e with
        | norm => exact Steps.head s0 s2
        | exit id => obtain ⟨todo, s2, t2⟩ := s2; exact ⟨todo, Steps.head s0 s2, t2⟩
        | goto l => obtain ⟨todo, s2, t2⟩ := s2; exact ⟨todo, Steps.head s0 s2, t2⟩
        | ret => obtain ⟨todo, s2⟩ := s2; exact ⟨todo, Steps.head s0 s2⟩
      · cases h
    | block id x =>
      simp only at h
      have s0 := fun k cs => fs_block (P := env.P) (b := b) (a := a) (k := k) (cs := cs) (w := w) (id := id) (c := x)
      split at h
      · rename_i id' st1 h1
        cases h
        obtain ⟨a1, w1, ρ1, r1, e1, c1⟩ := ih h1 hfn hk r hf
        refine ⟨a1, w1, ρ1, r1, e1, fun k cs => ?_⟩
        obtain ⟨todo, s2, t2⟩ := c1 (.inBlock id :: k) cs
        cases hb : Nat.beq id' id with
        | true =>
          have hb := Nat.eq_of_beq_eq_true hb
          subst hb
          simp only [cond_true]
          refine Steps.head (s0 k cs) (s2.trans (Steps.one (fs_exit ?_)))
          rw [t2]
          simp [exitTo]
        | false =>
          simp only [cond_false]
          refine ⟨todo, Steps.head (s0 k cs) s2, ?_⟩
          have hne : id ≠ id' := fun e => by subst e; simp at hb
          rw [t2]
          simp [exitTo, hne]
      · rename_i hne
        obtain ⟨a1, w1, ρ1, r1, e1, c1⟩ := ih h hfn hk r hf
        refine ⟨a1, w1, ρ1, r1, e1, fun k cs => ?_⟩
        have s2 := c1 (.inBlock id :: k) cs
        cases e with
        | norm => exact Steps.head (s0 k cs) (Steps.trans s2 (Steps.one fs_inBlock))
        | exit id => exact (hne _ _ h).elim
        | goto l => obtain ⟨todo, s2, t2⟩ := s2; exact ⟨todo, Steps.head (s0 k cs) s2, t2⟩
        | ret => obtain ⟨todo, s2⟩ := s2; exact ⟨todo, Steps.head (s0 k cs) s2⟩
    | loop x =>
      simp only at h
      have s0 := fun k cs => fs_loop (P := env.P) (b := b) (a := a) (k := k) (cs := cs) (w := w) (c := x)
      split at h
      · rename_i st1 h1
        obtain ⟨a1, w1, ρ1, r1, e1, c1⟩ := ih h1 hfn hk r (hf.left (nx h))
        obtain ⟨a2, w2, ρ2, r2, e2, c2⟩ := ih h hfn (hk.mono e1.mono) r1 (hf.right e1)
        refine ⟨a2, w2, ρ2, r2, e1.trans e2, fun k cs => ?_⟩
        have s1 := Steps.head (s0 k cs) (c1 (.inLoop x :: k) cs)
        have t0 := fs_inLoop (P := env.P) (b := b) (a := a1) (k := k) (cs := cs) (w := w1) (c := x)
        have t1 := fs_loop (P := env.P) (b := b) (a := a1) (k := k) (cs := cs) (w := w1) (c := x)
        have s2 := c2 k cs
        cases e with
        | norm => exact s1.trans (Steps.head t0 (Steps.tail' s2 t1 (fun he => by
            have := congrArg List.length (lone_todo he)
            simp at this)))
        | exit id => obtain ⟨todo, s2, t2⟩ := s2; exact ⟨todo, s1.trans (Steps.head t0 (Steps.tail' s2 t1 (fun he => by
            have := lone_todo he
            simp at this))), t2⟩
        | goto l => obtain ⟨todo, s2, t2⟩ := s2; exact ⟨todo, s1.trans (Steps.head t0 (Steps.tail' s2 t1 (fun he => by
            have := lone_todo he
            simp at this))), t2⟩
        | ret => obtain ⟨todo, s2⟩ := s2; exact ⟨todo, s1.trans (Steps.head t0 (Steps.tail' s2 t1 (fun he => by
            have := lone_todo he
            simp at this)))⟩
      · rename_i hne
        obtain ⟨a1, w1, ρ1, r1, e1, c1⟩ := ih h hfn hk r hf
        refine ⟨a1, w1, ρ1, r1, e1, fun k cs => ?_⟩
        have s2 := c1 (.inLoop x :: k) cs
        cases e with
        | norm => exact (hne _ h).elim
        | exit id => obtain ⟨todo, s2, t2⟩ := s2; exact ⟨todo, Steps.head (s0 k cs) s2, t2⟩
        | goto l => obtain ⟨todo, s2, t2⟩ := s2; exact ⟨todo, Steps.head (s0 k cs) s2, t2⟩
        | ret => obtain ⟨todo, s2⟩ := s2; exact ⟨todo, Steps.head (s0 k cs) s2⟩
    | scope x =>
      simp only at h
      have s0 := fun k cs => fs_scope (P := env.P) (b := b) (a := a) (k := k) (cs := cs) (w := w) (c := x)
      split at h
      · rename_i l st1 h1
        split at h
        · cases h
        · rename_i hfl
          cases h
          obtain ⟨a1, w1, ρ1, r1, e1, c1⟩ := ih h1 hfn hk r hf
          refine ⟨a1, w1, ρ1, r1, e1, fun k cs => ?_⟩
          obtain ⟨todo, s2, t2⟩ := c1 (.inScope x :: k) cs
          refine ⟨todo, Steps.head (s0 k cs) s2, ?_⟩
          rw [t2]
          simp [gotoIn, hfl]
      · rename_i hne
        obtain ⟨a1, w1, ρ1, r1, e1, c1⟩ := ih h hfn hk r hf
        refine ⟨a1, w1, ρ1, r1, e1, fun k cs => ?_⟩
        have s2 := c1 (.inScope x :: k) cs
        cases e with
        | norm => exact Steps.head (s0 k cs) (Steps.trans s2 (Steps.one fs_inScope))
        | exit id => obtain ⟨todo, s2, t2⟩ := s2; exact ⟨todo, Steps.head (s0 k cs) s2, t2⟩
        | goto l => exact (hne _ _ h).elim
        | ret => obtain ⟨todo, s2⟩ := s2; exact ⟨todo, Steps.head (s0 k cs) s2⟩
    | exit id => cases h; exact ⟨a, w, ρ, r, Ext.refl _ _ _, fun k cs => ⟨k, Steps.refl _ _, rfl⟩⟩
    | goto l => cases h; exact ⟨a, w, ρ, r, Ext.refl _ _ _, fun k cs => ⟨k, Steps.refl _ _, rfl⟩⟩
    | ret => cases h; exact ⟨a, w, ρ, r, Ext.refl _ _ _, fun k cs => ⟨k, Steps.refl _ _⟩⟩
    | region id ops draw =>
      simp only at h
      split at h
      · rename_i st1 h1
        have est : st1 = st' := by cases h; rfl
        subst est
        cases h
        cases draw with
        | true =>
          obtain ⟨_, hd⟩ := hdr _ _ _ h1
          let w1 : World := { w with drawn := w.drawn + 1 }
          have r1 : SRel ρ st a w1 := ⟨r.T, r.ds, r.h.of_heap rfl⟩
          obtain ⟨a', w', ρ', r', e', s'⟩ := hd ρ a w1 b (w.tape w.drawn (.order b.fn id)) r1 hf
          refine ⟨a', w', ρ', r', (Ext.of_heap (w := w) (w' := w1) rfl).trans e', fun k cs => ?_⟩
          have s0 := fs_draw (P := env.P) (b := b) (a := a) (k := k) (cs := cs) (w := w) (id := id) (ops := ops)
          rw [henv.mixed] at s0
          exact Steps.head s0 (Steps.trans (s' k cs) (Steps.one fs_regionEnd))
        | false =>
          simp only [cond_false] at h1
          obtain ⟨a', w', ρ', r', e', s'⟩ := aSeq_sound hlo (rd := round.isSome) (ops := ops) (b := b) (fun e => by cases round <;> first | exact hk | (simp at e)) ops.toList 0 st st1 (by simp) h1 ρ a w r hf
          refine ⟨a', w', ρ', r', e', fun k cs => ?_⟩
          have s0 := fs_region (P := env.P) (b := b) (a := a) (k := k) (cs := cs) (w := w) (id := id) (ops := ops)
          have s1 := s' k cs
          rw [show List.range' 0 ops.toList.length = List.range ops.size by simp [List.range_eq_range']] at s1
          exact Steps.head s0 (Steps.trans s1 (Steps.one fs_regionEnd))
      · cases h
    | rangeFunc f ps assign body =>
      simp only at h
      split at h
      · rename_i g args l st1 h1
        split at h
        · rename_i v2 h2 hc
          have n2 := (hlo.call _ _ _ _ _ hc).1
          have n3 := next_aEndLoop h
          simp only at n3
          obtain ⟨l', mark, w1, ρ1, args', x, g1, r1, e1, hb, g2, ra⟩ := aEnterLoop_sound h1 hfn hk r (hf.left (by omega))
          obtain ⟨v', w2, ρ2, hct, _, r2, e2⟩ := (hlo.call _ _ _ _ _ hc).2 ρ1 w1 args' r1.h ra ((hf.right e1).left (by omega))
          have r2' : SRel ρ2 { st1 with h := h2 } { a with defers := mark ++ a.defers } w2 := ⟨r1.T.mono e2.mono, r1.ds.mono e2.mono, r2⟩
          obtain ⟨jump, w3, g3, r3, e3, hj⟩ := aEndLoop_sound (P := env.P) h (e2.mono _ _ hb) r2'
          refine ⟨_, w3, ρ2, r3, (e1.trans e2).trans e3, fun k cs => ?_⟩
          have s1 : Steps env.P (lone (fat b a (.code (.rangeFunc f ps assign body) :: k)) cs w) (lone (fat b { a with defers := mark ++ a.defers } (.endRangeFunc l' :: k)) cs w2) := by
            rcases hct with hct | ⟨hct, hret⟩
            · exact Steps.one (fs_rangeValue g1 (by rw [g2, hct]))
            · obtain ⟨fr, _, h8, h9⟩ := hret (fat b { a with defers := mark ++ a.defers } (.inRangeFunc l' :: k) :: cs)
              refine Steps.head (fs_range g1 (by rw [g2, hct])) (h8.trans (Steps.one ?_))
              rw [fs_back h9]
              rfl
          have s2 := s1.trans (Steps.one (fs_rangeEnd g3))
          rcases hj with ⟨rfl, rfl⟩ | ⟨c, rfl, hc⟩
          · exact s2
          · rcases asJump_some hc with ⟨rfl, rfl⟩ | ⟨id, rfl, rfl⟩ | ⟨l, rfl, rfl⟩
            · exact ⟨k, s2⟩
            · exact ⟨k, s2, rfl⟩
            · exact ⟨k, s2, rfl⟩
        · cases h
      · cases h
    | refuse s => cases h

end Go.Tw
