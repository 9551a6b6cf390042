/- A second machine for Go's model: what single operations come to in the model's machine. Conditions: none. -/
import Derived.Test.YtdbnepjmepelcaaTwT
namespace Go.Tw

/-! Memory only grows. -/
theorem next_put (h : AHeap) (b : Nat) (o : AObj) : (h.put b o).next = h.next := rfl
theorem next_push (h : AHeap) (o : AObj) : (h.push o).next = h.next + 1 := rfl

theorem next_astore {h h' : AHeap} {a : Addr} {l : List Value} (e : astore h a l = some h') : h'.next = h.next := by
  unfold astore at e
  split at e
  · cases e; rfl
  · split at e
    · obtain ⟨_, e⟩ := cond_some e
      split at e
      · cases e; rfl
      · cases e
    · cases e

theorem next_aStore {P : Program} {h h' : AHeap} {t : TypeId} {a x : Value} (e : aStore P h t a x = some h') : h'.next = h.next := by
  unfold aStore at e
  split at e
  · exact next_astore (cond_some e).2
  · cases e

theorem next_aMapUpdate {P : Program} {h h' : AHeap} {t : TypeId} {m k x : Value} (e : aMapUpdate P h t m k x = some h') : h'.next = h.next := by
  unfold aMapUpdate at e
  split at e
  · split at e
    · have e := (cond_some e).2
      split at e <;> cases e <;> rfl
    · cases e
  · cases e

theorem next_aClear {P : Program} {h h' : AHeap} {t : TypeId} {m : Value} (e : aClear P h t m = some h') : h'.next = h.next := by
  unfold aClear at e
  split at e
  · split at e
    · cases e; rfl
    · cases e
  · cases e

theorem next_aCopy {P : Program} {h h' : AHeap} {t : TypeId} {x y v : Value} (e : aCopy P h t x y = some (v, h')) : h'.next = h.next := by
  unfold aCopy at e
  split at e
  · split at e
    · split at e
      · split at e
        · rename_i h2 hs
          cases e
          exact next_astore hs
        · cases e
      · cases e
    · cases e
  · split at e
    · split at e
      · cases e; rfl
      · cases e
    · cases e
  · cases e

theorem next_aUString {P : Program} {h h' : AHeap} {ts : Array TypeId} {p n v : Value} (e : aUString P h ts p n = some (v, h')) : h'.next = h.next := by
  unfold aUString at e
  split at e
  · cases e; rfl
  · split at e
    · have e := (cond_some e).2
      split at e
      · split at e
        · cases e; rfl
        · cases e
      · cases e
    · cases e
  · cases e

theorem next_aGrow {P : Program} {h h' : AHeap} {m : Md} {e : TypeId} {sz sLen n : Nat} {old new : List Value} {v : Value} (hg : aGrow P h m e sz sLen n old new = some (v, h')) : h.next ≤ h'.next := by
  obtain ⟨_, _, _, _, _, _, _, _, _, _, rfl⟩ := aGrow_facts hg
  exact Nat.le_succ _

theorem next_aApp {P : Program} {h h' : AHeap} {e : TypeId} {s x v : Value} (hl : aApp P h e s x = some (v, h')) : h.next ≤ h'.next := by
  unfold aApp at hl
  simp only [Bool.cond_eq_ite] at hl
  repeat' split at hl
  all_goals first
    | (have := next_aGrow hl; exact this)
    | (cases hl; done)
    | (cases hl; exact Nat.le_refl _)
    | (cases hl; exact Nat.le_of_eq (next_astore ‹_›).symm)
    | (cases hl; exact Nat.le_succ _)

theorem next_pushB {h h' : AHeap} {m : AObj × (Nat → Value)} {v : Value} (e : pushB h m = some (v, h')) : h.next ≤ h'.next := by
  have e := (cond_some e).2
  cases e
  exact Nat.le_succ _

theorem next_aEff {P : Program} {ev : Operand → Option Value} {h h' : AHeap} {o : Op} {v : Value} (e : aEff P ev h o = some (v, h')) : h.next ≤ h'.next := by
  unfold aEff at e
  simp only [Bool.cond_eq_ite] at e
  repeat' split at e
  all_goals first
    | (cases e; done)
    | (cases e; exact Nat.le_of_eq (next_aStore ‹_›).symm)
    | (cases e; exact Nat.le_of_eq (next_aMapUpdate ‹_›).symm)
    | exact next_aApp e
    | exact Nat.le_of_eq (next_aCopy e).symm
    | (cases e; exact Nat.le_of_eq (next_aClear ‹_›).symm)
    | exact Nat.le_of_eq (next_aUString e).symm

theorem next_aSimple {P : Program} {ev : Operand → Option Value} {h h' : AHeap} {o : Op} {v : Value} (e : aSimple P ev h o = some (v, h')) : h.next ≤ h'.next := by
  unfold aSimple at e
  repeat' split at e
  all_goals first
    | (cases e; exact Nat.le_refl _)
    | exact next_pushB e
    | exact next_aEff e

/-! What calls come to. -/
def RetTo (P : Program) (kind : CallKind) (f : FuncId) (args : Array Value) (w : World) (v : Value) (w' : World) : Prop :=
  ∀ cs, ∃ fr, fr.fn = f ∧ Steps P (lone (Frame.enter P f args kind) cs w) (lone fr cs w') ∧ Gives P fr kind w' v

def CallTo (P : Program) (f : FuncId) (args : Array Value) (w : World) (v : Value) (w' : World) : Prop :=
  (callFunc f args).run P w = .ok (.value v) w' ∨ ((callFunc f args).run P w = .ok (.enter f args) w ∧ RetTo P .normal f args w v w')

def RoundTo (P : Program) (l : Nat) (args : Array Value) (w : World) (v : Value) (w' : World) : Prop :=
  ∃ f tmps assign body, (Instr.yield l args).run P w = .ok (.round l f tmps assign body) w ∧
    ∀ c cs, Steps P (lone (Frame.round l f tmps assign body .normal) (c :: cs) w) (lone (c.finish v) cs w')

structure LoOk (P : Program) (lo : Lo) : Prop where
  call : ∀ f args h v h', lo.call f args h = some (v, h') → h.next ≤ h'.next ∧ ∀ ρ w args', Rel ρ h w → ARel ρ args.toArray args' → Free ρ h h' →
    ∃ v' w' ρ', CallTo P f args' w v' w' ∧ VRel ρ' v v' ∧ Rel ρ' h' w' ∧ Ext ρ h w ρ' h' w'
  dcall : ∀ f args h h', lo.dcall f args h = some h' → h.next ≤ h'.next ∧ ∀ ρ w args', Rel ρ h w → ARel ρ args.toArray args' → Free ρ h h' →
    ∃ v' w' ρ', (callFunc f args').run P w = .ok (.enter f args') w ∧ RetTo P .deferred f args' w v' w' ∧ Rel ρ' h' w' ∧ Ext ρ h w ρ' h' w'
  round : ∀ l args h v h', lo.round l args h = some (v, h') → h.next ≤ h'.next ∧ ∀ ρ w args' l' x, Rel ρ h w → ρ l = some (l', x) → ARel ρ args.toArray args' → Free ρ h h' →
    ∃ v' w' ρ', RoundTo P l' args' w v' w' ∧ VRel ρ' v v' ∧ Rel ρ' h' w' ∧ Ext ρ h w ρ' h' w'

/-- What one operation comes to. -/
def OpTo (P : Program) (b : Frame) (ops : Array Oper) (i : Nat) (o : Oper) (a : Act) (w : World) (v : Value) (w' : World) : Prop :=
  ∀ k cs rest, Steps P (lone (fat b a (.inRegion ops (i :: rest) :: k)) cs w) (lone (fat b (a.put o.dst v) (.inRegion ops rest :: k)) cs w')

/-! The operation that a call is. -/
theorem getD_info {P : Program} {t : TypeId} {i : TypeInfo} (h : P.info? t = some i) (w : World) : (typeInfo t).run P w = .ok i w := by
  simp [typeInfo, h]

theorem ARel.one {ρ : Inj} {v v' : Value} (r : VRel ρ v v') : ARel ρ #[v] #[v'] := by
  refine ⟨rfl, fun i u u' h h' => ?_⟩
  cases i with
  | zero => simp at h h'; subst h; subst h'; exact r
  | succ i => simp at h

theorem mQ_sound {P : Program} {t : TypeId} {name : String} {f : FuncId} (h : mQ P t name = some f) (v : Value) (w : World) :
    (method (P.types.size + Made.depth) t v name).run P w = .ok (f, v) w := by
  unfold mQ at h
  split at h
  · rename_i i hi
    split at h
    · rename_i m hm
      obtain ⟨hp, h⟩ := cond_some h
      have hp' : m.path = #[] := by simpa using hp
      obtain ⟨n, e⟩ : ∃ n, P.types.size + Made.depth = n + 1 := ⟨P.types.size + 99, rfl⟩
      rw [e]
      unfold method
      split at h
      · rename_i g _ hf hu
        cases h
        simp [getD_info hi, hm, hp', follow, hf, receiverAt, run_underlying hu, Place.get]
      · cases h
      · rename_i g hnp hf hu
        cases h
        cases g <;> first | exact (hnp _ rfl).elim | simp [getD_info hi, hm, hp', follow, hf, receiverAt, run_underlying hu, Place.get]
      · cases h
    · cases h
  · cases h

theorem aTarget_fn {P : Program} {ρ : Inj} {ev : Operand → Option Value} {ec : Operand → Value} (he : ∀ x v, ev x = some v → VRel ρ v (ec x)) {c : Call} {f : FuncId} {args : List Value}
    (h : aTarget P ev c = some (.fn f args)) (t : TypeId) (w : World) :
    ∃ args', (do let d ← resolve ec c t; invoke d.target d.args : Sem Next).run P w = (callFunc f args').run P w ∧ ARel ρ args.toArray args' := by
  unfold aTarget at h
  split at h
  · cases h
  · rename_i as has
    have ra := evList_arr he has
    split at h
    · cases h
    · rename_i f0 hc
      split at h
      · rename_i g first cap hf
        cases h
        have rf := he _ _ hf
        have hres : ∀ y, ec f0 = y → resolve ec c t = Deferred.ofValue y (c.args.map ec) := by
          intro y hy; subst hy
          simp only [resolve, hc]
        generalize hyy : ec f0 = y at rf
        rw [hres y hyy]
        cases rf with
        | func fn hfn x x' y y' hx hy rx ry =>
        refine ⟨x' ++ (c.args.map ec) ++ y', by simp [Deferred.ofValue, invoke], ?_⟩
        have h1 : ARel ρ first x' := ⟨hx, rx⟩
        have h2 : ARel ρ cap y' := ⟨hy, ry⟩
        have := (h1.append ra).append h2
        have e1 : (first.toList ++ as ++ cap.toList).toArray = first ++ as.toArray ++ cap := by
          apply Array.ext'
          simp
        rw [e1]
        exact this
      · cases h
      · cases h
    · rename_i r name hc
      split at h
      · rename_i t0 v hr
        split at h
        · rename_i g hm
          cases h
          have rf := he _ _ hr
          have hres : resolve ec c t = pure { target := .fn (.method name) #[], args := #[ec r] ++ c.args.map ec } := by
            simp only [resolve, hc]
          rw [hres]
          generalize ec r = y at rf
          cases rf with
          | iface _ _ v' rv =>
          have h1 : ARel ρ #[v] #[v'] := ARel.one rv
          refine ⟨#[v'] ++ c.args.map ec, ?_, ?_⟩
          · have hx : (#[Value.iface t0 v'] ++ c.args.map ec).extract 1 (#[Value.iface t0 v'] ++ c.args.map ec).size = c.args.map ec := by
              apply Array.ext'
              simp [List.take_of_length_le]
            have h0 : (#[Value.iface t0 v'] ++ c.args.map ec : Array Value)[0]? = some (Value.iface t0 v') := by
              rw [Array.getElem?_append_left (by simp)]; rfl
            have hq := mQ_sound hm v' w
            refine (congrArg (fun s : Sem Next => s.run P w) (pure_bind (m := Sem) _ _)).trans ?_
            simp only [invoke]
            rw [h0]
            simp only [hx]
            simp [callMethod, hq]
          · have := h1.append ra
            have e1 : (v :: as).toArray = #[v] ++ as.toArray := by
              apply Array.ext'
              simp
            rw [e1]
            exact this
        · cases h
      · cases h

end Go.Tw
