/- A second machine for Go's model: code. Conditions: none. -/
import Derived.Test.YtdbnepjmepelcaaTwV
import Derived.RangeFuncRecord
namespace Go.Tw

section moves
variable {P : Program} {b : Frame} {a : Act} {k : List Item} {cs : List Frame} {w : World}

theorem fs_range {g : Operand} {ps : Array Tmp} {assign body : Code} {l : Nat} {mark : List Deferred} {w1 w2 : World} {f : FuncId} {args : Array Value}
    (he : (Instr.enterLoop b.fn a.tmps ps assign body b.roundOf).run P w = .ok (l, mark) w1)
    (hr : (do let d ← resolve a.eval { callee := .value g, args := #[.const (.func (.yield l) #[] #[])], argTypes := #[] } 0; invoke d.target d.args : Sem Next).run P w1 = .ok (.enter f args) w2) :
    step P (lone (fat b a (.code (.rangeFunc g ps assign body) :: k)) cs w) =
      .next (lone (Frame.enter P f args .normal) (fat b { a with defers := mark ++ a.defers } (.inRangeFunc l :: k) :: cs) w2) :=
  step_lone_go (by
    have hev := fat_eval' b { a with defers := mark ++ a.defers } (.inRangeFunc l :: k)
    have hev2 : (fat b { a with defers := mark ++ a.defers } (.inRangeFunc l :: k)).eval = a.eval := by
      rw [hev]; funext x; cases x <;> rfl
    simp only [fat] at hev2
    simp [stepG, stepG.exec, fat, Sem.runT_eq, he, GStep.bare_after, stepG.apply, hev2, hr, -Sem.run_bind])

theorem fs_rangeValue {g : Operand} {ps : Array Tmp} {assign body : Code} {l : Nat} {mark : List Deferred} {w1 w2 : World} {v : Value}
    (he : (Instr.enterLoop b.fn a.tmps ps assign body b.roundOf).run P w = .ok (l, mark) w1)
    (hr : (do let d ← resolve a.eval { callee := .value g, args := #[.const (.func (.yield l) #[] #[])], argTypes := #[] } 0; invoke d.target d.args : Sem Next).run P w1 = .ok (.value v) w2) :
    step P (lone (fat b a (.code (.rangeFunc g ps assign body) :: k)) cs w) =
      .next (lone (fat b { a with defers := mark ++ a.defers } (.endRangeFunc l :: k)) cs w2) :=
  step_lone_go (by
    have hev := fat_eval' b { a with defers := mark ++ a.defers } (.inRangeFunc l :: k)
    have hev2 : (fat b { a with defers := mark ++ a.defers } (.inRangeFunc l :: k)).eval = a.eval := by
      rw [hev]; funext x; cases x <;> rfl
    simp only [fat] at hev2
    simp [stepG, stepG.exec, fat, Sem.runT_eq, he, GStep.bare_after, stepG.apply, hev2, hr, Frame.finish, -Sem.run_bind])

theorem fs_rangeEnd {l : Nat} {jump : Option Code} {w' : World} (he : (Instr.endLoop l).run P w = .ok jump w') :
    step P (lone (fat b a (.endRangeFunc l :: k)) cs w) = .next (lone (fat b a ((jump.map Item.code).toList ++ k)) cs w') :=
  step_lone_go (by simp [stepG, stepG.exec, fat, Sem.runT_eq, he, GStep.bare_after])

end moves

/-- What a statement whose order is open comes to. -/
def DrawSound (env : Env) (lo : Lo) : Prop := ∀ ops st st', aDraw env lo ops st = some st' → st.h.next ≤ st'.h.next ∧
  ∀ ρ a w b t, SRel ρ st a w → Free ρ st.h st'.h → ∃ a' w' ρ', SRel ρ' st' a' w' ∧ Ext ρ st.h w ρ' st'.h w' ∧
    ∀ k cs, Steps env.P (lone (fat b a (.inRegion ops (Region.schedule true ops t) :: k)) cs w) (lone (fat b a' (.inRegion ops [] :: k)) cs w')

def CodeTo (P : Program) (b : Frame) (a : Act) (c : Code) (w : World) (e : AExit) (a' : Act) (w' : World) : Prop := ∀ k cs, match e with
  | .norm => Steps P (lone (fat b a (.code c :: k)) cs w) (lone (fat b a' k) cs w')
  | .exit id => ∃ todo, Steps P (lone (fat b a (.code c :: k)) cs w) (lone (fat b a' (.code (.exit id) :: todo)) cs w') ∧ exitTo id todo = exitTo id k
  | .goto l => ∃ todo, Steps P (lone (fat b a (.code c :: k)) cs w) (lone (fat b a' (.code (.goto l) :: todo)) cs w') ∧ gotoIn l todo = gotoIn l k
  | .ret => ∃ todo, Steps P (lone (fat b a (.code c :: k)) cs w) (lone (fat b a' (.code .ret :: todo)) cs w')

theorem asJump_some {c : Code} {e : AExit} (h : asJump c = some e) : (c = .ret ∧ e = .ret) ∨ (∃ id, c = .exit id ∧ e = .exit id) ∨ (∃ l, c = .goto l ∧ e = .goto l) := by
  cases c <;> simp [asJump] at h <;> subst h <;> simp

/-- A loop's block, here and there. -/
theorem loop_at {ρ : Inj} {h : AHeap} {w : World} (r : Rel ρ h w) {l l' : Nat} {x : Ofs} {state : LoopState} {pend : Option Code} {fn : FuncId} {T : Tmps} {ps : Array Tmp} {assign body : Code} {df : Nat}
    (hb : ρ l = some (l', x)) (hl : h.get l = some (.loop state pend fn T ps assign body df)) :
    ∃ t df' y, w.heap[l']? = some (.loop { state := state, pending := pend, fn := fn, tmps := t, params := ps, assign := assign, body := body, defers := df' }) ∧ TRel ρ T t ∧ ρ df = some (df', y) := by
  have := r.obj l l' x _ hb hl
  generalize w.heap[l']? = o at this
  cases this with
  | loop _ _ _ _ t _ _ _ _ df' _ y ht hd => exact ⟨t, df', y, rfl, ht, hd⟩

theorem next_aEnterLoop {env : Env} {fn : FuncId} {round : Option Nat} {f : Operand} {ps : Array Tmp} {assign body : Code} {st st1 : St} {g : FuncId} {args : List Value} {l : Nat}
    (h : aEnterLoop env fn round f ps assign body st = some (g, args, l, st1)) : st.h.next ≤ st1.h.next := by
  unfold aEnterLoop at h
  split at h
  · split at h
    · have h := (cond_some h).2
      cases h
      exact Nat.le_trans (Nat.le_succ _) (Nat.le_succ _)
    · split at h
      · have h := (cond_some h).2
        cases h
        exact Nat.le_succ _
      · cases h
  · cases h

theorem next_aEndLoop {l : Nat} {st st1 : St} {e : AExit} (h : aEndLoop l st = some (e, st1)) : st1.h.next = st.h.next := by
  unfold aEndLoop at h
  split at h
  · split at h
    · cases h
    · split at h
      · cases h; rfl
      · split at h
        · cases h; rfl
        · cases h
  · cases h

/-- The function of a loop over a function. -/
theorem range_fn {P : Program} {ρ : Inj} {ec : Operand → Value} {f : Operand} {g : FuncId} {first cap : Array Value} {b l : Nat} {x : Ofs}
    (rf : VRel ρ (.func (.func g) first cap) (ec f)) (hb : ρ b = some (l, x)) (hc : ∀ v, ec (.const v) = v) (w : World) :
    ∃ args', (do let d ← resolve ec { callee := .value f, args := #[.const (.func (.yield l) #[] #[])], argTypes := #[] } 0; invoke d.target d.args : Sem Next).run P w = (callFunc g args').run P w ∧
      ARel ρ (first.toList ++ [Value.func (.yield b) #[] #[]] ++ cap.toList).toArray args' := by
  have hres : resolve ec { callee := .value f, args := #[.const (.func (.yield l) #[] #[])], argTypes := #[] } 0 = Deferred.ofValue (ec f) #[Value.func (.yield l) #[] #[]] := by
    simp [resolve, hc]
  rw [hres]
  generalize ec f = y at rf
  cases rf with
  | func fn hfn x x' y y' hx hy rx ry =>
  refine ⟨x' ++ #[Value.func (.yield l) #[] #[]] ++ y', by simp [Deferred.ofValue, invoke], ?_⟩
  have h1 : ARel ρ first x' := ⟨hx, rx⟩
  have h2 : ARel ρ cap y' := ⟨hy, ry⟩
  have := (h1.append (ARel.one (VRel.yield b l _ hb))).append h2
  have e1 : (first.toList ++ [Value.func (.yield b) #[] #[]] ++ cap.toList).toArray = first ++ #[Value.func (.yield b) #[] #[]] ++ cap := by
    apply Array.ext'
    simp
  rw [e1]
  exact this

/-- A loop over a function is entered. -/
theorem aEnterLoop_sound {env : Env} {fn : FuncId} {round : Option Nat} {f : Operand} {ps : Array Tmp} {assign body : Code} {st st1 : St} {g : FuncId} {args : List Value} {l : Nat}
    (h : aEnterLoop env fn round f ps assign body st = some (g, args, l, st1)) {ρ : Inj} {a : Act} {w : World} {b : Frame} (hfn : b.fn = fn) (hk : kindOk b round ρ) (r : SRel ρ st a w) (hf : Free ρ st.h st1.h) :
    ∃ l' mark w1 ρ1 args' x, (Instr.enterLoop b.fn a.tmps ps assign body b.roundOf).run env.P w = .ok (l', mark) w1 ∧ SRel ρ1 st1 { a with defers := mark ++ a.defers } w1 ∧ Ext ρ st.h w ρ1 st1.h w1 ∧ ρ1 l = some (l', x) ∧
      (do let d ← resolve a.eval { callee := .value f, args := #[.const (.func (.yield l') #[] #[])], argTypes := #[] } 0; invoke d.target d.args : Sem Next).run env.P w1 = (callFunc g args').run env.P w1 ∧ ARel ρ1 args.toArray args' := by
  unfold aEnterLoop at h
  split at h
  · rename_i g0 first cap hev
    have rf := aEval_sound r.T _ _ hev
    split at h
    · obtain ⟨hlt, h⟩ := cond_some h
      cases h
      have hlt : st.h.next + 2 < lim := by simp [Nat.blt] at hlt; omega
      have hk : b.roundOf = none := hk
      rw [hk, hfn]
      -- the block of the deferred calls
      have hn0 : ρ st.h.next = none := hf _ (Nat.le_refl _) (by show st.h.next < st.h.next + 1 + 1; omega)
      let w1 : World := { w with heap := w.heap.push (.deferred (some [])) }
      obtain ⟨r1, e1⟩ := r.h.alloc (w' := w1) (o := .deferred (some [])) (x := .deferred (some [])) (0, 0) (by omega) hn0 rfl (.deferred [] [] _ trivial)
      have hf1 := hf.right e1
      have hn1 : (ρ.add st.h.next w.heap.size (0, 0)) (st.h.push (.deferred (some []))).next = none := hf1 _ (Nat.le_refl _) (by show st.h.next + 1 < st.h.next + 1 + 1; omega)
      let w2 : World := { w1 with heap := w1.heap.push (.loop { state := .ready, pending := none, fn := fn, tmps := a.tmps, params := ps, assign := assign, body := body, defers := w.heap.size }) }
      have hd : (ρ.add st.h.next w.heap.size (0, 0)) st.h.next = some (w.heap.size, (0, 0)) := by simp [Inj.add]
      have m2 := Inj.add_mono (c := w1.heap.size) (d := (0, 0)) hn1
      obtain ⟨r2, e2⟩ := r1.alloc (w' := w2) (o := .loop .ready none fn st.T ps assign body st.h.next)
        (x := .loop { state := .ready, pending := none, fn := fn, tmps := a.tmps, params := ps, assign := assign, body := body, defers := w.heap.size }) (0, 0) (by show st.h.next + 1 + 1 < lim; omega) hn1 rfl
        (.loop _ _ _ _ _ _ _ _ _ _ _ (0, 0) (((r.T).mono e1.mono).mono m2) (m2 _ _ hd))
      have e := e1.trans e2
      have hb : ((ρ.add st.h.next w.heap.size (0, 0)).add (st.h.push (.deferred (some []))).next w1.heap.size (0, 0)) (st.h.push (.deferred (some []))).next = some (w1.heap.size, (0, 0)) := by simp [Inj.add]
      obtain ⟨args', h1, h2⟩ := range_fn (P := env.P) (rf.mono e.mono) hb (fun v => rfl) w2
      refine ⟨w1.heap.size, [{ target := .collected w.heap.size, args := #[] }], w2, _, args', (0, 0), ?_, ⟨r.T.mono e.mono, ⟨⟨ARel.nil _, _, m2 _ _ hd⟩, r.ds.mono e.mono⟩, r2⟩, e, hb, h1, h2⟩
      simp [Instr.enterLoop, w1, w2, newObj, Sem.run]
    · rename_i l0
      obtain ⟨l0', x0, hk1, hk2⟩ := hk
      split at h
      · rename_i s0 p0 f0 T0 ps0 a0 bd0 df hl0
        obtain ⟨hlt, h⟩ := cond_some h
        cases h
        have hlt : st.h.next + 1 < lim := by simp [Nat.blt] at hlt; omega
        rw [hk1, hfn]
        obtain ⟨t0, df', y, hw0, _, hd⟩ := loop_at r.h hk2 hl0
        have hn0 : ρ st.h.next = none := hf _ (Nat.le_refl _) (by show st.h.next < st.h.next + 1; omega)
        let w1 : World := { w with heap := w.heap.push (.loop { state := .ready, pending := none, fn := fn, tmps := a.tmps, params := ps, assign := assign, body := body, defers := df' }) }
        have m2 := Inj.add_mono (c := w.heap.size) (d := (0, 0)) hn0
        obtain ⟨r1, e1⟩ := r.h.alloc (w' := w1) (o := .loop .ready none fn st.T ps assign body df)
          (x := .loop { state := .ready, pending := none, fn := fn, tmps := a.tmps, params := ps, assign := assign, body := body, defers := df' }) (0, 0) hlt hn0 rfl
          (.loop _ _ _ _ _ _ _ _ _ _ _ y (r.T.mono m2) (m2 _ _ hd))
        have hb : (ρ.add st.h.next w.heap.size (0, 0)) st.h.next = some (w.heap.size, (0, 0)) := by simp [Inj.add]
        obtain ⟨args', h1, h2⟩ := range_fn (P := env.P) (rf.mono e1.mono) hb (fun v => rfl) w1
        refine ⟨w.heap.size, [], w1, _, args', (0, 0), ?_, ⟨r.T.mono e1.mono, r.ds.mono e1.mono, r1⟩, e1, hb, h1, h2⟩
        have hg : (Instr.getLoop l0').run env.P w = .ok { state := s0, pending := p0, fn := f0, tmps := t0, params := ps0, assign := a0, body := bd0, defers := df' } w := by
          simp [Instr.getLoop, getObj, Sem.run, hw0]
        simp [Instr.enterLoop, hg, w1, newObj, Sem.run]
      · cases h
  · cases h

theorem aEndLoop_sound {P : Program} {l : Nat} {st st1 : St} {e : AExit} (h : aEndLoop l st = some (e, st1)) {ρ : Inj} {a : Act} {w : World} {l' : Nat} {x : Ofs} (hb : ρ l = some (l', x)) (r : SRel ρ st a w) :
    ∃ jump w', (Instr.endLoop l').run P w = .ok jump w' ∧ SRel ρ st1 a w' ∧ Ext ρ st.h w ρ st1.h w' ∧ ((jump = none ∧ e = .norm) ∨ ∃ c, jump = some c ∧ asJump c = some e) := by
  unfold aEndLoop at h
  split at h
  · rename_i state pend fn T ps assign body df hl
    obtain ⟨t, df', y, hw, ht, hd⟩ := loop_at r.h hb hl
    split at h
    · cases h
    · rename_i hnb
      have hg : (Instr.getLoop l').run P w = .ok { state := state, pending := pend, fn := fn, tmps := t, params := ps, assign := assign, body := body, defers := df' } w := by
        simp [Instr.getLoop, getObj, Sem.run, hw]
      let w' : World := { w with heap := w.heap.setIfInBounds l' (.loop { state := .exhausted, pending := pend, fn := fn, tmps := t, params := ps, assign := assign, body := body, defers := df' }) }
      have hrun : (Instr.endLoop l').run P w = .ok pend w' := by
        cases state <;> first | exact (hnb rfl).elim | simp [Instr.endLoop, hg, setObj, Sem.run, hw, w']
      have key := r.h.write (w' := w') (x := .loop { state := .exhausted, pending := pend, fn := fn, tmps := t, params := ps, assign := assign, body := body, defers := df' }) hb hl rfl rfl
        (.loop .exhausted pend fn T t ps assign body df df' _ y ht hd)
      split at h
      · cases h
        exact ⟨none, w', hrun, ⟨r.T, r.ds, key.1⟩, key.2, .inl ⟨rfl, rfl⟩⟩
      · rename_i c
        split at h
        · rename_i e0 he
          cases h
          exact ⟨some c, w', hrun, ⟨r.T, r.ds, key.1⟩, key.2, .inr ⟨c, rfl, he⟩⟩
        · cases h
  · cases h

end Go.Tw
