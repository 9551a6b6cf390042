/- A second machine for Go's model: operations that look, make, write; what a call goes to. Conditions: none. -/
import Derived.Test.YtdbnepjmepelcaaTwP
namespace Go.Tw

/-- Operations that look into memory. -/
def aLook (P : Program) (ev : Operand → Option Value) (h : AHeap) (o : Op) : Option Value :=
  match o with
  | .load t x => match ev x with
    | some a => aLoad P h t a
    | none => none
  | .lookup t x i ok => match ev x, ev i with
    | some a, some b => aLookup P h t a b ok
    | _, _ => none
  | .convert src dst x => match ev x with
    | some a => match aStrOf P h src dst a with
      | some v => some v
      | none => aUnsafe P h src dst a
    | none => none
  | .call { callee := .builtin .len, args, argTypes } => match evList ev args.toList, argTypes[0]? with
    | some [x], some t => aLenMap P h t x
    | _, _ => none
  | _ => none

theorem aLook_sound {P : Program} {ρ : Inj} {ev : Operand → Option Value} {ec : Operand → Value} (he : ∀ x v, ev x = some v → VRel ρ v (ec x)) {h : AHeap} {w : World} (r : Rel ρ h w) {o : Oper} {v : Value}
    (hl : aLook P ev h o.op = some v) : PureOk P ρ (execOp ec o) v w := by
  obtain ⟨dst, op, type, pos, after, guard⟩ := o
  simp only at hl
  cases op <;> simp only [aLook] at hl <;> try (cases hl; done)
  case load t x =>
    split at hl
    · rename_i a ha
      obtain ⟨v', h1, h2⟩ := aLoad_sound r hl (he _ _ ha)
      exact .val h1 h2
    · cases hl
  case lookup t x i ok =>
    split at hl
    · rename_i a b ha hb
      obtain ⟨v', h1, h2⟩ := aLookup_sound r hl (he _ _ ha) (he _ _ hb)
      exact .val h1 h2
    · cases hl
  case convert src dst x =>
    split at hl
    · rename_i a ha
      split at hl
      · rename_i u hu
        cases hl
        obtain ⟨h1, h2⟩ := aStrOf_sound r hu (he _ _ ha)
        exact .val h1 (plain_rel ρ h2)
      · obtain ⟨v', h1, h2⟩ := aUnsafe_sound r hl (he _ _ ha)
        exact .val h1 h2
    · cases hl
  case call c =>
    obtain ⟨callee, args, argTypes⟩ := c
    cases callee with
    | builtin b =>
      cases b <;> simp only at hl <;> try (cases hl; done)
      split at hl
      · rename_i x t hx ht
        obtain ⟨x', e1, rx⟩ := builtin_len2 rfl (evList_arr he hx)
        obtain ⟨h1, h2⟩ := aLenMap_sound (ty := type) r hl ht rx
        refine .val (s := Builtin.len_ argTypes type (args.map ec)) (v' := v) ?_ (plain_rel ρ h2)
        rw [e1]; exact h1
      · cases hl
    | value f => cases hl
    | invoke q m => cases hl

/-- Operations that make one block. -/
def aMk (P : Program) (ev : Operand → Option Value) (o : Op) : Made :=
  match o with
  | .alloc e => mkAlloc P e
  | .box e x => match ev x with
    | some v => mkBox e v
    | none => none
  | .buildSlice t len ps => match evParts ev ps.toList with
    | some l => mkRow P t len l
    | none => none
  | .makeSlice t l c => match ev l, ev c with
    | some a, some b => mkSlice P t a b
    | _, _ => none
  | .makeMap _ none => some (.map [] 0, fun b => .map (some b))
  | .convert src dst x => match ev x with
    | some a => mkBytes P src dst a
    | none => none
  | _ => none

def MakeOk (P : Program) (ρ : Inj) (s : Sem Next) (obj : AObj) (f : Nat → Value) (w : World) : Prop :=
  ∃ x v' w', s.run P w = .ok (.value v') w' ∧ HeapIs w w' (w.heap.push x) ∧
    ∀ ρ' b, (∀ b y, ρ b = some y → ρ' b = some y) → ρ' b = some (w.heap.size, (0, 0)) → ORel ρ' obj (0, 0) (some x) ∧ VRel ρ' (f b) v'

theorem MakeV.ok {P : Program} {ρ : Inj} {s : Sem Value} {obj : AObj} {f : Nat → Value} {w : World} (h : MakeV P ρ s obj f w) : MakeOk P ρ (do pure (.value (← s))) obj f w := by
  obtain ⟨x, v', w', h1, h2, h3⟩ := h
  exact ⟨x, v', w', by simp [h1], h2, h3⟩

theorem mkMap_sound {P : Program} {ρ : Inj} (t : TypeId) (w : World) : MakeV P ρ (Instr.makeMap t none) (.map [] 0) (fun b => .map (some b)) w := by
  refine ⟨Obj.map #[] 0, Value.map (some w.heap.size), { w with heap := w.heap.push (.map #[] 0) }, ?_, rfl, fun ρ' b hm hb => ⟨?_, ?_⟩⟩
  · simp [Instr.makeMap]
  · exact ORel.map [] #[] 0 (0, 0) rfl (fun i x x' a => by simp at a)
  · exact VRel.map _ _ _ hb

set_option maxHeartbeats 1000000 in
theorem aMk_sound {P : Program} {ρ : Inj} {ev : Operand → Option Value} {ec : Operand → Value} (he : ∀ x v, ev x = some v → VRel ρ v (ec x)) {o : Oper} {obj : AObj} {f : Nat → Value}
    (h : aMk P ev o.op = some (obj, f)) (w : World) : MakeOk P ρ (execOp ec o) obj f w := by
  obtain ⟨dst, op, type, pos, after, guard⟩ := o
  simp only at h
  cases op <;> simp only [aMk] at h <;> try (cases h; done)
  case alloc e => exact (mkAlloc_sound h w).ok
  case box e x =>
    split at h
    · rename_i v hv
      exact (mkBox_sound h (he _ _ hv) w).ok
    · cases h
  case buildSlice t len ps =>
    split at h
    · rename_i l hl
      have := evParts_sound he hl
      exact (mkRow_sound (ps := ps.map fun (i, x) => (i, ec x)) h (by simpa using this) w).ok
    · cases h
  case makeSlice t l c =>
    split at h
    · rename_i a b ha hb
      exact (mkSlice_sound h (he _ _ ha) (he _ _ hb) w).ok
    · cases h
  case makeMap t rsv =>
    cases rsv with
    | some x => cases h
    | none =>
      cases h
      exact (mkMap_sound t w).ok
  case convert src dst x =>
    split at h
    · rename_i a ha
      exact (mkBytes_sound h (he _ _ ha) w).ok
    · cases h

/-- Operations that write memory, but no calls of functions. -/
def aEff (P : Program) (ev : Operand → Option Value) (h : AHeap) (o : Op) : Option (Value × AHeap) :=
  match o with
  | .store t a x => match ev a, ev x with
    | some p, some v => match aStore P h t p v with
      | some h' => some (undef, h')
      | none => none
    | _, _ => none
  | .mapUpdate t m k x => match ev m, ev k, ev x with
    | some m, some k, some v => match aMapUpdate P h t m k v with
      | some h' => some (undef, h')
      | none => none
    | _, _, _ => none
  | .insert t m k x => match ev m, ev k, ev x with
    | some m, some k, some v => match aMapUpdate P h t m k v with
      | some h' => some (undef, h')
      | none => none
    | _, _, _ => none
  | .call { callee := .builtin b, args, argTypes } => match b, evList ev args.toList with
    | .append, some [s, x] => match argTypes.toList with
      | [st, xt] => match P.underlying st, P.underlying xt with
        | some (.slice e), some d => cond (appKind d) (aApp P h e s x) none
        | _, _ => none
      | _ => none
    | .copy, some [x, y] => match argTypes[0]? with
      | some t => aCopy P h t x y
      | none => none
    | .clear, some [x] => match argTypes[0]? with
      | some t => match aClear P h t x with
        | some h' => some (.tuple #[], h')
        | none => none
      | none => none
    | .unsafeString, some [p, n] => aUString P h argTypes p n
    | _, _ => none
  | _ => none

/-- What an operation that writes comes to. -/
def EffOk (P : Program) (ρ : Inj) (h : AHeap) (s : Sem Next) (v : Value) (h' : AHeap) (w : World) : Prop :=
  ∃ w' ρ', Rel ρ' h' w' ∧ Ext ρ h w ρ' h' w' ∧ ((∃ v', s.run P w = .ok (.value v') w' ∧ VRel ρ' v v') ∨ (s.run P w = .ok .skip w' ∧ v = undef))

theorem EffV.ok {P : Program} {ρ : Inj} {h h' : AHeap} {s : Sem Value} {v : Value} {w : World} (e : EffV P ρ h s v h' w) : EffOk P ρ h (do pure (.value (← s))) v h' w := by
  obtain ⟨v', w', ρ', h1, h2, h3, h4⟩ := e
  exact ⟨w', ρ', h3, h4, .inl ⟨v', by simp [h1], h2⟩⟩

theorem EffU.ok {P : Program} {ρ : Inj} {h h' : AHeap} {s : Sem Unit} {w : World} (e : EffU P ρ h s h' w) : EffOk P ρ h (do s; pure .skip) undef h' w := by
  obtain ⟨w', ρ', h1, h2, h3⟩ := e
  exact ⟨w', ρ', h2, h3, .inr ⟨by simp [h1], rfl⟩⟩

theorem aEff_sound {P : Program} {ρ : Inj} {ev : Operand → Option Value} {ec : Operand → Value} (he : ∀ x v, ev x = some v → VRel ρ v (ec x)) {h h' : AHeap} {w : World} (r : Rel ρ h w) {o : Oper} {v : Value}
    (hl : aEff P ev h o.op = some (v, h')) (hf : Free ρ h h') : EffOk P ρ h (execOp ec o) v h' w := by
  obtain ⟨dst, op, type, pos, after, guard⟩ := o
  simp only at hl
  cases op <;> simp only [aEff] at hl <;> try (cases hl; done)
  case store t a x =>
    split at hl
    · rename_i p u hp hu
      split at hl
      · rename_i h2 hs
        cases hl
        exact (aStore_sound r hs (he _ _ hp) (he _ _ hu)).ok
      · cases hl
    · cases hl
  case mapUpdate t m k x =>
    split at hl
    · rename_i m0 k0 x0 hm hk hx
      split at hl
      · rename_i h2 hs
        cases hl
        exact (aMapUpdate_sound r hs (he _ _ hm) (he _ _ hk) (he _ _ hx)).ok
      · cases hl
    · cases hl
  case insert t m k x =>
    split at hl
    · rename_i m0 k0 x0 hm hk hx
      split at hl
      · rename_i h2 hs
        cases hl
        exact (aMapUpdate_sound r hs (he _ _ hm) (he _ _ hk) (he _ _ hx)).ok
      · cases hl
    · cases hl
  case call c =>
    obtain ⟨callee, args, argTypes⟩ := c
    cases callee with
    | builtin b =>
      simp only at hl
      split at hl
      · rename_i s x hx
        obtain ⟨s', x', e1, rs, rx⟩ := arr_two rfl (evList_arr he hx)
        split at hl
        · rename_i st xt ht
          split at hl
          · rename_i e d hu hd
            obtain ⟨hk, hl⟩ := cond_some hl
            have hts : argTypes = #[st, xt] := by rw [← Array.toArray_toList (xs := argTypes), ht]
            subst hts
            have := (aApp_sound (ty := type) r hl hf hu hd hk rs rx).ok
            rw [← e1] at this
            exact this
          · cases hl
        · cases hl
      · rename_i x y hx
        obtain ⟨s', x', e1, rs, rx⟩ := arr_two rfl (evList_arr he hx)
        split at hl
        · rename_i t ht
          have := (aCopy_sound (ty := type) r hl ht rs rx).ok
          rw [← e1] at this
          exact this
        · cases hl
      · rename_i x hx
        obtain ⟨x', e1, rx⟩ := builtin_len2 rfl (evList_arr he hx)
        split at hl
        · rename_i t ht
          split at hl
          · rename_i h2 hc
            cases hl
            have := (aClear_sound (ty := type) r hc ht rx).ok
            rw [← e1] at this
            exact this
          · cases hl
        · cases hl
      · rename_i p n hx
        obtain ⟨s', x', e1, rs, rx⟩ := arr_two rfl (evList_arr he hx)
        have := (aUString_sound (ty := type) r hl rs rx).ok
        rw [← e1] at this
        exact this
      · cases hl
    | value f => cases hl
    | invoke q m => cases hl

end Go.Tw
