/- A second machine for Go's model: operations that only read. Conditions: none. -/
import Derived.Test.YtdbnepjmepelcaaTwI
namespace Go.Tw

/-! What a call of a builtin that reads no memory comes to. -/
def aLen (P : Program) (t : TypeId) (x : Value) : Option Value :=
  match P.underlying t, x with
  | some .string, .string s => some (goInt (strLen s))
  | some (.slice _), .slice _ n _ => some (goInt n)
  | some (.array n _), _ => some (goInt n)
  | some (.pointer arr), _ => match P.underlying arr with
    | some (.array n _) => some (goInt n)
    | _ => none
  | some (.map _ _), .map none => some (goInt 0)
  | _, _ => none

theorem aLen_sound {P : Program} {ρ : Inj} {t : TypeId} {x x' v : Value} {ts : Array TypeId} {ty : TypeId} (h : aLen P t x = some v) (ht : ts[0]? = some t) (rx : VRel ρ x x') (w : World) :
    (Builtin.len_ ts ty #[x']).run P w = .ok v w ∧ plain v = true := by
  unfold aLen at h
  split at h
  · rename_i hu
    cases h; cases rx
    exact ⟨by simp [Builtin.len_, ht, run_underlying hu, strLen_eq], rfl⟩
  · rename_i hu
    cases h
    cases rx <;> exact ⟨by simp [Builtin.len_, ht, run_underlying hu], rfl⟩
  · rename_i hu
    cases h
    exact ⟨by simp [Builtin.len_, ht, run_underlying hu], rfl⟩
  · rename_i arr hu
    split at h
    · rename_i hu2
      cases h
      exact ⟨by simp [Builtin.len_, ht, run_underlying hu, run_underlying hu2], rfl⟩
    · cases h
  · rename_i hu
    cases h; cases rx
    exact ⟨by simp [Builtin.len_, ht, run_underlying hu], rfl⟩
  · cases h

def aBuiltin (P : Program) (b : Builtin) (ts : Array TypeId) (args : List Value) : Option Value :=
  match b, args with
  | .len, [x] => match ts[0]? with
    | some t => aLen P t x
    | none => none
  | .max, [.int k x, .int _ y] => some (.int k (if y > x then y else x))
  | .min, [.int k x, .int _ y] => some (.int k (if y < x then y else x))
  | .cap, [.slice _ _ k] => match ts[0]? with
    | some t => match P.underlying t with
      | some (.slice _) => cond (Nat.blt k ucap) (some (goInt k)) none
      | _ => none
    | none => none
  | _, _ => none

theorem aBuiltin_sound {P : Program} {ρ : Inj} {b : Builtin} {ts : Array TypeId} {ty : TypeId} {cs : Array Bool} {args : List Value} {args' : Array Value} {v : Value}
    (h : aBuiltin P b ts args = some v) (r : ARel ρ args.toArray args') (w : World) : (builtin b ts ty cs args').run P w = .ok (.value v) w ∧ plain v = true := by
  have one : ∀ x, args = [x] → ∃ x', args' = #[x'] ∧ VRel ρ x x' := by
    intro x e
    subst e
    have hs : args'.size = 1 := by have := r.1; simpa using this.symm
    obtain ⟨x', hx'⟩ : ∃ x', args' = #[x'] := ⟨args'[0], by
      apply Array.ext
      · simp [hs]
      · intro i h1 h2
        have : i = 0 := by simp at h2; omega
        subst this; simp⟩
    subst hx'
    exact ⟨x', rfl, r.2 0 x x' (by simp) (by simp)⟩
  have two : ∀ x y, args = [x, y] → ∃ x' y', args' = #[x', y'] ∧ VRel ρ x x' ∧ VRel ρ y y' := by
    intro x y e
    subst e
    have hs : args'.size = 2 := by have := r.1; simpa using this.symm
    obtain ⟨x', y', hx'⟩ : ∃ x' y', args' = #[x', y'] := ⟨args'[0], args'[1], by
      apply Array.ext
      · simp [hs]
      · intro i h1 h2
        have : i = 0 ∨ i = 1 := by simp at h2; omega
        rcases this with rfl | rfl <;> simp⟩
    subst hx'
    exact ⟨x', y', rfl, r.2 0 x x' (by simp) (by simp), r.2 1 y y' (by simp) (by simp)⟩
  unfold aBuiltin at h
  split at h
  · rename_i x
    obtain ⟨x', rfl, rx⟩ := one x rfl
    split at h
    · rename_i t ht
      obtain ⟨h1, h2⟩ := aLen_sound (ty := ty) h ht rx w
      exact ⟨by simp [builtin, h1], h2⟩
    · cases h
  · rename_i k x k' y
    obtain ⟨x', y', rfl, rx, ry⟩ := two _ _ rfl
    cases rx; cases ry; cases h
    exact ⟨by simp [builtin, run_max_int2], rfl⟩
  · rename_i k x k' y
    obtain ⟨x', y', rfl, rx, ry⟩ := two _ _ rfl
    cases rx; cases ry; cases h
    exact ⟨by simp [builtin, run_min_int2], rfl⟩
  · rename_i a n k
    obtain ⟨x', rfl, rx⟩ := one _ rfl
    split at h
    · rename_i t ht
      split at h
      · rename_i e hu
        obtain ⟨hb, h⟩ := cond_some h
        have hb := blt_lt hb
        cases h
        cases rx with
        | sliceNil n k => exact ⟨by simp [builtin, Builtin.cap_, ht, run_underlying hu], rfl⟩
        | wild a a' k' hs => exact absurd hb (Nat.lt_irrefl _)
        | slice b o c d n k k' hρ hk =>
          obtain ⟨_, rfl⟩ := hk.resolve_right (fun e => by omega)
          exact ⟨by simp [builtin, Builtin.cap_, ht, run_underlying hu], rfl⟩
      · cases h
    · cases h
  · cases h

end Go.Tw
