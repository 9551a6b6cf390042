/- A second machine for Go's model: each operation by its kind. Conditions: none. -/
import Derived.Test.YtdbnepjmepelcaaTwO
namespace Go.Tw

def builtinPure (P : Program) (b : Builtin) (ts : Array TypeId) (args : List Value) : Option Value :=
  match b, args with
  | .unsafeSliceData, [x] => aSliceData x
  | b, args => aBuiltin P b ts args

def aNilCheck (x : Value) : Option Value := match x with
  | .pointer (some a) => some (.pointer (some a))
  | .iface t v => some (.iface t v)
  | .func (.func f) x y => some (.func (.func f) x y)
  | _ => none

def aExtract (x : Value) (i : Nat) : Option Value := match x with
  | .tuple vs => vs[i]?
  | _ => none

def aMkIface (P : Program) (t : TypeId) (x : Value) : Option Value := match P.underlying t with
  | some (.interface _) => none
  | some _ => some (.iface t x)
  | none => none

def isIface : TypeDesc → Bool
  | .interface _ => true
  | _ => false

def aAssert (P : Program) (x : Value) (asserted : TypeId) (ok : Bool) : Option Value :=
  match P.underlying asserted, x with
  | some d, .iface t v => cond (isIface d) none (cond (Nat.beq t asserted) (some (cond ok (.tuple #[v, .bool true]) v))
      (cond ok (match zeroQ P asserted with
        | some z => some (.tuple #[z, .bool false])
        | none => none) none))
  | some _, .nilIface => cond ok (match zeroQ P asserted with
        | some z => some (.tuple #[z, .bool false])
        | none => none) none
  | _, _ => none

theorem aAssert_sound {P : Program} {ρ : Inj} {x x' v : Value} {xt asserted : TypeId} {ok : Bool} (h : aAssert P x asserted ok = some v) (rx : VRel ρ x x') (w : World) :
    ∃ v', (Instr.typeAssert x' xt asserted ok).run P w = .ok v' w ∧ VRel ρ v v' := by
  unfold aAssert at h
  split at h
  · rename_i d t u hu
    cases rx with
    | iface _ _ u' hr =>
    cases hd : isIface d with
    | true => simp [hd] at h
    | false =>
      simp only [hd, cond_false] at h
      cases ht : Nat.beq t asserted with
      | true =>
        have ht := Nat.eq_of_beq_eq_true ht
        subst ht
        simp only [Nat.beq_refl, cond_true] at h
        cases h
        refine ⟨cond ok (.tuple #[u', .bool true]) u', ?_, ?_⟩
        · cases d <;> first | (simp [isIface] at hd; done) | (cases ok <;> simp [Instr.typeAssert, run_underlying hu])
        · cases ok
          · exact hr
          · exact pair_rel hr true
      | false =>
        have hne : t ≠ asserted := fun e => by subst e; simp at ht
        simp only [ht, cond_false] at h
        cases ok with
        | false => cases h
        | true =>
          simp only [cond_true] at h
          split at h
          · rename_i z hz
            cases h
            obtain ⟨hzr, hzf⟩ := run_zeroValue w hz
            refine ⟨.tuple #[z, .bool false], ?_, pair_rel (flat_rel ρ hzf) false⟩
            cases d <;> first | (simp [isIface] at hd; done) | simp [Instr.typeAssert, run_underlying hu, hne, hzr]
          · cases h
  · rename_i d hu
    cases rx
    cases ok with
    | false => cases h
    | true =>
      simp only [cond_true] at h
      split at h
      · rename_i z hz
        cases h
        obtain ⟨hzr, hzf⟩ := run_zeroValue w hz
        refine ⟨.tuple #[z, .bool false], ?_, pair_rel (flat_rel ρ hzf) false⟩
        cases d <;> simp [Instr.typeAssert, run_underlying hu, hzr]
      · cases h
  · cases h

/-- Operations that look at nothing but their operands. -/
def aPure (P : Program) (ev : Operand → Option Value) (o : Op) : Option Value :=
  match o with
  | .move x => ev x
  | .assign x => ev x
  | .pick c a b => match ev c with
    | some (.bool t) => cond t (ev a) (ev b)
    | _ => none
  | .build t ps => match evParts ev ps.toList with
    | some l => aBuild P t l
    | none => none
  | .nilCheck x => match ev x with
    | some v => aNilCheck v
    | none => none
  | .binOp op t x y _ => match ev x, ev y with
    | some a, some b => match samePtr op a b with
      | some v => cond (match P.underlying t with
          | some (.pointer e) => match szQ P e with
            | some (_ + 1) => true
            | _ => false
          | _ => false) (some v) none
      | none => aBin P op t x y a b
    | _, _ => none
  | .unOp op _ x => match ev x with
    | some a => aUn op a
    | none => none
  | .convert src dst x => match ev x with
    | some a => aConv P src dst a
    | none => none
  | .makeInterface t x => match ev x with
    | some a => aMkIface P t a
    | none => none
  | .makeFunc fn first captured => match fn with
    | .func _ => match evList ev first.toList, evList ev captured.toList with
      | some x, some y => some (.func fn x.toArray y.toArray)
      | _, _ => none
    | _ => none
  | .slice t x lo hi none => aSlice P ev t x lo hi
  | .fieldAddr s x f => match ev x with
    | some a => aFieldAddr P s a f
    | none => none
  | .field t x f => match ev x with
    | some a => aField P t a f
    | none => none
  | .indexAddr t x i => match ev x, ev i with
    | some a, some b => aIndexAddr P t a b
    | _, _ => none
  | .index t x i => match ev x, ev i with
    | some a, some b => aIndex P t a b
    | _, _ => none
  | .extract t i => match ev t with
    | some a => aExtract a i
    | none => none
  | .typeAssert x _ asserted ok => match ev x with
    | some a => aAssert P a asserted ok
    | none => none
  | .call { callee := .builtin b, args, argTypes } => match evList ev args.toList with
    | some l => builtinPure P b argTypes l
    | none => none
  | _ => none

def PureOk (P : Program) (ρ : Inj) (s : Sem Next) (v : Value) (w : World) : Prop := ∃ v', s.run P w = .ok (.value v') w ∧ VRel ρ v v'

theorem PureOk.val {P : Program} {ρ : Inj} {s : Sem Value} {v v' : Value} {w : World} (h : s.run P w = .ok v' w) (r : VRel ρ v v') :
    PureOk P ρ (do pure (.value (← s))) v w := ⟨v', by simp [h], r⟩

theorem samePtr_sound {P : Program} {ρ : Inj} {op : BinOp} {t e : TypeId} {x y x' y' v : Value} {n : Nat} (h : samePtr op x y = some v) (hu : P.underlying t = some (.pointer e)) (hn : szQ P e = some (n + 1))
    (rx : VRel ρ x x') (ry : VRel ρ y y') (xo yo : Operand) (w : World) :
    (do eqGuard op t xo yo x' y'; binOp op t x' y' : Sem Value).run P w = .ok v w ∧ ∃ b, v = .bool b := by
  unfold samePtr at h
  split at h
  · rename_i a b
    obtain ⟨hb, h⟩ := cond_some h
    simp only [Bool.and_eq_true] at hb
    obtain ⟨⟨b1, _⟩, _⟩ := hb
    have b1 := Nat.eq_of_beq_eq_true b1
    obtain ⟨c, hc, h2⟩ := eqOps_some h
    cases hc
    cases rx with
    | ptr b o c d hρ =>
    cases ry with
    | ptr b2 o2 c2 d2 hρ2 =>
    simp only at b1
    subst b1
    rw [hρ] at hρ2
    cases hρ2
    have heq : (Op.equal t (.pointer (some ⟨c, d.1 + o, none⟩)) (.pointer (some ⟨c, d.1 + o2, none⟩))).run P w = .ok (Nat.beq o o2) w := by
      have key : ∀ k, (Op.equalIn (k + 1) t (.pointer (some ⟨c, d.1 + o, none⟩)) (.pointer (some ⟨c, d.1 + o2, none⟩))).run P w = .ok (Nat.beq o o2) w := by
        intro k
        have e1 : ((⟨c, d.1 + o, none⟩ : Addr) == ⟨c, d.1 + o2, none⟩) = Nat.beq o o2 := by
          by_cases e : o = o2
          · subst e; simp
          · have h1 : Nat.beq o o2 = false := by
              cases hh : Nat.beq o o2
              · rfl
              · exact absurd (Nat.eq_of_beq_eq_true hh) e
            rw [h1]
            simp
            omega
        simp [Op.equalIn, run_underlying hu, run_sizeOf w hn, sameAddr, e1]
      exact key 9999
    have hg : eqGuard op t xo yo (.pointer (some ⟨c, d.1 + o, none⟩)) (.pointer (some ⟨c, d.1 + o2, none⟩)) = pure () := eqGuard_pure (by simp) (by simp)
    have hb := binOp_eq_of (by simp) (by simp) (by simp) (by simp) heq
    rw [hg]
    simp only [pure_bind]
    rcases h2 with ⟨rfl, rfl⟩ | ⟨rfl, rfl⟩
    · exact ⟨hb.1, _, rfl⟩
    · exact ⟨hb.2, _, rfl⟩
  · cases h

theorem builtin_len2 {ρ : Inj} {args : List Value} {args' : Array Value} {x : Value} (e : args = [x]) (r : ARel ρ args.toArray args') : ∃ x', args' = #[x'] ∧ VRel ρ x x' := by
  subst e
  have hs : args'.size = 1 := by have := r.1; simpa using this.symm
  obtain ⟨x', hx'⟩ : ∃ x', args' = #[x'] := ⟨args'[0], by
    apply Array.ext
    · simp [hs]
    · intro i h1 h2
      have : i = 0 := by simp at h2; omega
      subst this; simp⟩
  subst hx'
  exact ⟨x', rfl, r.2 0 x x' (by simp) (by simp)⟩

theorem arr_two {ρ : Inj} {args : List Value} {args' : Array Value} {x y : Value} (e : args = [x, y]) (r : ARel ρ args.toArray args') : ∃ x' y', args' = #[x', y'] ∧ VRel ρ x x' ∧ VRel ρ y y' := by
  subst e
  have hs : args'.size = 2 := by have := r.1; simpa using this.symm
  obtain ⟨x', y', hx'⟩ : ∃ x' y', args' = #[x', y'] := ⟨args'[0], args'[1], by
    apply Array.ext
    · simp [hs]
    · intro i h1 h2
      have : i = 0 ∨ i = 1 := by simp at h2; omega
      rcases this with rfl | rfl <;> simp⟩
  subst hx'
  exact ⟨x', y', rfl, r.2 0 x x' (by simp) (by simp), r.2 1 y y' (by simp) (by simp)⟩

theorem builtinPure_sound {P : Program} {ρ : Inj} {b : Builtin} {ts : Array TypeId} {ty : TypeId} {cs : Array Bool} {args : List Value} {args' : Array Value} {v : Value}
    (h : builtinPure P b ts args = some v) (r : ARel ρ args.toArray args') (w : World) : ∃ v', (builtin b ts ty cs args').run P w = .ok (.value v') w ∧ VRel ρ v v' := by
  unfold builtinPure at h
  split at h
  · rename_i x
    obtain ⟨x', rfl, rx⟩ := builtin_len2 rfl r
    obtain ⟨v', h1, h2⟩ := aSliceData_sound (P := P) (ts := ts) (ty := ty) h rx w
    exact ⟨v', by simp [builtin, h1], h2⟩
  · obtain ⟨h1, h2⟩ := aBuiltin_sound (P := P) (ty := ty) (cs := cs) h r w
    exact ⟨v, h1, plain_rel ρ h2⟩

set_option maxHeartbeats 2000000 in
theorem aPure_sound {P : Program} {ρ : Inj} {ev : Operand → Option Value} {ec : Operand → Value} (he : ∀ x v, ev x = some v → VRel ρ v (ec x)) {o : Oper} {v : Value}
    (h : aPure P ev o.op = some v) (w : World) : PureOk P ρ (execOp ec o) v w := by
  obtain ⟨dst, op, type, pos, after, guard⟩ := o
  simp only at h
  cases op <;> simp only [aPure] at h <;> try (cases h; done)
  case move x => exact ⟨_, rfl, he _ _ h⟩
  case assign x => exact ⟨_, rfl, he _ _ h⟩
  case pick c a b =>
    split at h
    · rename_i t hc
      have rc := he _ _ hc
      have e1 : execOp ec ⟨dst, .pick c a b, type, pos, after, guard⟩ = (do pure (.value (if ← asBool (ec c) then ec a else ec b))) := rfl
      rw [e1]
      generalize ec c = y at rc ⊢
      cases rc
      cases t
      · exact ⟨ec b, by simp [asBool], he _ _ h⟩
      · exact ⟨ec a, by simp [asBool], he _ _ h⟩
    · cases h
  case build t ps =>
    split at h
    · rename_i l hl
      obtain ⟨v', h1, h2⟩ := aBuild_sound he hl h w
      exact .val h1 h2
    · cases h
  case nilCheck x =>
    split at h
    · rename_i a ha
      have ra := he _ _ ha
      unfold aNilCheck at h
      have e1 : ∀ y, ec x = y → execOp ec ⟨dst, .nilCheck x, type, pos, after, guard⟩ = execOp (fun _ => y) ⟨dst, .nilCheck x, type, pos, after, guard⟩ := by
        intro y hy; subst hy; rfl
      rw [e1 _ rfl]
      generalize ec x = y at ra ⊢
      split at h
      · cases h
        cases ra with
        | ptr b o c d hρ => exact ⟨_, rfl, .ptr b o c d hρ⟩
      · cases h
        cases ra with
        | iface t0 u0 u0' hu => exact ⟨_, rfl, .iface _ _ _ hu⟩
      · cases h
        cases ra with
        | func fn0 hf x0 x0' y0 y0' hx hy rx ry => exact ⟨_, rfl, .func _ hf _ _ _ _ hx hy rx ry⟩
      · cases h
    · cases h
  case binOp op t x y yt =>
    split at h
    · rename_i a b ha hb
      have ra := he _ _ ha
      have rb := he _ _ hb
      split at h
      · rename_i u hs
        obtain ⟨hc, h⟩ := cond_some h
        cases h
        split at hc
        · rename_i e hu
          split at hc
          · rename_i n hn
            obtain ⟨h1, b', rfl⟩ := samePtr_sound hs hu hn ra rb x y w
            exact .val h1 (.bool b')
          · cases hc
        · cases hc
      · obtain ⟨v', h1, h2⟩ := aBin_sound h ra rb w
        exact .val h1 h2
    · cases h
  case unOp op t x =>
    split at h
    · rename_i a ha
      obtain ⟨h1, h2⟩ := aUn_sound h (he _ _ ha)
      exact .val (v' := v) (by rw [h1]; rfl) (plain_rel ρ h2)
    · cases h
  case convert src dst x =>
    split at h
    · rename_i a ha
      obtain ⟨h1, h2⟩ := aConv_sound h (he _ _ ha) w
      exact .val h1 (plain_rel ρ h2)
    · cases h
  case makeInterface t x =>
    split at h
    · rename_i a ha
      unfold aMkIface at h
      split at h
      · cases h
      · rename_i d hne hu
        cases h
        have h1 : (Instr.makeInterface t (ec x)).run P w = .ok (.iface t (ec x)) w := by
          simp only [Instr.makeInterface, Sem.run_bind, run_underlying hu, Result.andThen_ok]
          cases d <;> first | rfl | exact absurd hu (hne _)
        exact .val h1 (.iface t _ _ (he _ _ ha))
      · cases h
    · cases h
  case makeFunc fn first captured =>
    split at h
    · rename_i f
      split at h
      · rename_i x y hx hy
        cases h
        have r1 := evList_arr he hx
        have r2 := evList_arr he hy
        exact .val (s := Instr.makeFunc (.func f) (first.map ec) (captured.map ec)) rfl (.func _ (by simp) _ _ _ _ r1.1 r2.1 r1.2 r2.2)
      · cases h
    · cases h
  case slice t x lo hi mx =>
    cases mx with
    | some m => cases h
    | none =>
      obtain ⟨v', h1, h2⟩ := aSlice_sound he h w
      exact .val h1 h2
  case fieldAddr s x f =>
    split at h
    · rename_i a ha
      obtain ⟨v', h1, h2⟩ := aFieldAddr_sound h (he _ _ ha) w
      exact .val h1 h2
    · cases h
  case field t x f =>
    split at h
    · rename_i a ha
      obtain ⟨v', h1, h2⟩ := aField_sound h (he _ _ ha) w
      exact .val h1 h2
    · cases h
  case indexAddr t x i =>
    split at h
    · rename_i a b ha hb
      obtain ⟨v', h1, h2⟩ := aIndexAddr_sound h (he _ _ ha) (he _ _ hb) w
      exact .val h1 h2
    · cases h
  case index t x i =>
    split at h
    · rename_i a b ha hb
      obtain ⟨v', h1, h2⟩ := aIndex_sound h (he _ _ ha) (he _ _ hb) w
      exact .val h1 h2
    · cases h
  case extract t i =>
    split at h
    · rename_i a ha
      have ra := he _ _ ha
      unfold aExtract at h
      split at h
      · rename_i vs
        have e1 : ∃ v', (Instr.extract (ec t) i).run P w = .ok v' w ∧ VRel ρ v v' := by
          generalize ec t = y at ra
          cases ra with
          | tuple x x' hx rx =>
          obtain ⟨v', h1, h2⟩ := ARel.get ⟨hx, rx⟩ h
          exact ⟨v', by simp [Instr.extract, h1], h2⟩
        obtain ⟨v', h1, h2⟩ := e1
        exact .val h1 h2
      · cases h
    · cases h
  case typeAssert x xt asserted ok =>
    split at h
    · rename_i a ha
      obtain ⟨v', h1, h2⟩ := aAssert_sound (xt := xt) h (he _ _ ha) w
      exact .val h1 h2
    · cases h
  case call c =>
    obtain ⟨callee, args, argTypes⟩ := c
    cases callee with
    | builtin b =>
      simp only at h
      split at h
      · rename_i l hl
        obtain ⟨v', h1, h2⟩ := builtinPure_sound (ty := type) (cs := args.map fun | .const _ => true | _ => false) h (evList_arr he hl) w
        exact ⟨v', h1, h2⟩
      · cases h
    | value f => cases h
    | invoke r m => cases h

end Go.Tw
