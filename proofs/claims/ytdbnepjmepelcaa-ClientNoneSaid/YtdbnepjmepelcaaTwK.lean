/- A second machine for Go's model: maps, and operations that look into memory. Conditions: none. -/
import Derived.Test.YtdbnepjmepelcaaTwJ
namespace Go.Tw

def ERel (ρ : Inj) (e e' : MapEntry) : Prop := VRel ρ e.key e'.key ∧ VRel ρ e.val e'.val ∧ e.born = e'.born

def LE (ρ : Inj) : List MapEntry → List MapEntry → Prop
  | [], [] => True
  | e :: r, e' :: r' => ERel ρ e e' ∧ LE ρ r r'
  | _, _ => False

theorem LE.of_get {ρ : Inj} : ∀ {l l' : List MapEntry}, l.length = l'.length →
    (∀ (i : Nat) (x x' : MapEntry), l[i]? = some x → l'[i]? = some x' → ERel ρ x x') → LE ρ l l'
  | [], [], _, _ => trivial
  | [], _ :: _, h, _ => by simp at h
  | _ :: _, [], h, _ => by simp at h
  | e :: r, e' :: r', h, g => ⟨g 0 e e' (by simp) (by simp), LE.of_get (by simpa using h) (fun i x x' a b => g (i + 1) x x' (by simpa using a) (by simpa using b))⟩

theorem ORel.mapOf {ρ : Inj} {es : List MapEntry} {clock : Nat} {d : Ofs} {x : Option Obj} (r : ORel ρ (.map es clock) d x) :
    ∃ es' : Array MapEntry, x = some (.map es' clock) ∧ es.length = es'.size ∧ (∀ (i : Nat) (x x' : MapEntry), es[i]? = some x → es'[i]? = some x' → ERel ρ x x') ∧ LE ρ es es'.toList := by
  cases r with
  | map _ es' _ _ hl he =>
    exact ⟨es', rfl, hl, he, LE.of_get (by simpa using hl) (fun i x x' a b => he i x x' a (by simpa using b))⟩

def aSame (kind : TypeDesc) (a b : Value) : Option Bool :=
  match kind, a, b with
  | .int _, .int k a, .int k' b => cond (decide (k = k')) (some (a == b)) none
  | .string, .string a, .string b => some (strEq a b)
  | .bool, .bool a, .bool b => some (a == b)
  | _, _, _ => none

theorem aSame_sound {ρ : Inj} {kind : TypeDesc} {a b a' b' : Value} {r : Bool} (h : aSame kind a b = some r) (ra : VRel ρ a a') (rb : VRel ρ b b') : Instr.sameNow kind a' b' = some r := by
  unfold aSame at h
  split at h
  · rename_i k x k' y
    cases ra; cases rb
    by_cases e : k = k'
    · subst e; simp at h; subst h; simp [Instr.sameNow]
    · simp [e] at h
  · cases ra; cases rb; cases h
    simp [Instr.sameNow, strEq_beq]
  · cases ra; cases rb; cases h
    simp [Instr.sameNow]
  · cases h

def aFind (kind : TypeDesc) (k : Value) : List MapEntry → Nat → Option (Option (Nat × Value))
  | [], _ => some none
  | e :: es, i => match aSame kind k e.key with
    | some true => some (some (i, e.val))
    | some false => aFind kind k es (i + 1)
    | none => none

theorem aFind_none {ρ : Inj} {kind : TypeDesc} {k k' : Value} (rk : VRel ρ k k') : ∀ {es es' : List MapEntry} {i : Nat}, LE ρ es es' → aFind kind k es i = some none →
    Instr.findNow kind k' es' i = some none
  | [], [], i, _, _ => rfl
  | [], _ :: _, _, h, _ => h.elim
  | _ :: _, [], _, h, _ => h.elim
  | e :: es, e' :: es', i, h, g => by
    simp only [aFind] at g
    split at g
    · cases g
    · rename_i hs
      simp only [Instr.findNow, aSame_sound hs rk h.1.1]
      exact aFind_none rk h.2 g
    · cases g

theorem aFind_some {ρ : Inj} {kind : TypeDesc} {k k' : Value} (rk : VRel ρ k k') : ∀ {es es' : List MapEntry} {i j : Nat} {v : Value}, LE ρ es es' → aFind kind k es i = some (some (j, v)) →
    ∃ v', Instr.findNow kind k' es' i = some (some (j, v')) ∧ VRel ρ v v' ∧ i ≤ j ∧ j - i < es.length
  | [], [], i, j, v, _, g => by simp [aFind] at g
  | [], _ :: _, _, _, _, h, _ => h.elim
  | _ :: _, [], _, _, _, h, _ => h.elim
  | e :: es, e' :: es', i, j, v, h, g => by
    simp only [aFind] at g
    split at g
    · rename_i hs
      cases g
      exact ⟨e'.val, by simp only [Instr.findNow, aSame_sound hs rk h.1.1], h.1.2.1, Nat.le_refl _, by simp⟩
    · rename_i hs
      obtain ⟨v', h1, h2, h3, h4⟩ := aFind_some rk h.2 g
      exact ⟨v', by simp only [Instr.findNow, aSame_sound hs rk h.1.1]; exact h1, h2, by omega, by simp; omega⟩
    · cases g

/-- A kind of key that can be asked for at once. -/
def keyKind (d : TypeDesc) : Bool := match d with
  | .int _ | .string | .bool => true
  | _ => false

theorem checkKey_run {P : Program} {t : TypeId} {d : TypeDesc} (hd : P.underlying t = some d) (hk : keyKind d = true) (b : Bool) (v : Value) (w : World) :
    (Instr.checkKey b 10000 t v).run P w = .ok () w := by
  have key : ∀ n, (Instr.checkKey b (n + 1) t v).run P w = .ok () w := by
    intro n
    cases d <;> simp [keyKind] at hk <;> simp [Instr.checkKey, run_underlying hd]
  exact key 9999

theorem findKey_run {P : Program} {t : TypeId} {d : TypeDesc} {k : Value} {es : List MapEntry} {r : Option (Nat × Value)} (hd : P.underlying t = some d) (h : Instr.findNow d k es 0 = some r) (w : World) :
    (Instr.findKey t k es).run P w = .ok r w := by
  simp [Instr.findKey, run_underlying hd, h]

def aLookup (P : Program) (h : AHeap) (t : TypeId) (x i : Value) (ok : Bool) : Option Value :=
  match P.underlying t with
  | some (.map key elem) => match P.underlying key, zeroQ P elem with
    | some kd, some z => cond (keyKind kd) (match x with
        | .map none => match aFind kd i [] 0 with
          | some _ => some (cond ok (.tuple #[z, .bool false]) z)
          | none => none
        | .map (some r) => match h.get r with
          | some (.map es _) => match aFind kd i es 0 with
            | some (some (_, v)) => some (cond ok (.tuple #[v, .bool true]) v)
            | some none => some (cond ok (.tuple #[z, .bool false]) z)
            | none => none
          | _ => none
        | _ => none) none
    | _, _ => none
  | _ => none

theorem pair_rel {ρ : Inj} {v v' : Value} (r : VRel ρ v v') (b : Bool) : VRel ρ (.tuple #[v, .bool b]) (.tuple #[v', .bool b]) := by
  refine .tuple _ _ rfl (fun i u u' hu hu' => ?_)
  match i, hu, hu' with
  | 0, hu, hu' => simp at hu hu'; subst hu; subst hu'; exact r
  | 1, hu, hu' => simp at hu hu'; subst hu; subst hu'; exact .bool b
  | i + 2, hu, hu' => simp at hu

theorem getMap_run {P : Program} {w : World} {r : Nat} {es : Array MapEntry} {clock : Nat} (h : w.heap[r]? = some (.map es clock)) : (getObj r).run P w = .ok (.map es clock) w := by
  simp [getObj, Sem.run, h]

theorem aLookup_sound {P : Program} {ρ : Inj} {h : AHeap} {w : World} (r : Rel ρ h w) {t : TypeId} {x x' i i' v : Value} {ok : Bool} (hl : aLookup P h t x i ok = some v)
    (rx : VRel ρ x x') (ri : VRel ρ i i') : ∃ v', (Instr.lookup t x' i' ok).run P w = .ok v' w ∧ VRel ρ v v' := by
  unfold aLookup at hl
  split at hl
  · rename_i key elem hu
    split at hl
    · rename_i kd z hkd hz
      obtain ⟨hkk, hl⟩ := cond_some hl
      obtain ⟨hzr, hzf⟩ := run_zeroValue w hz
      have fin : ∀ (u u' : Value) (b : Bool), VRel ρ u u' → VRel ρ (cond ok (.tuple #[u, .bool b]) u) (if ok = true then .tuple #[u', .bool b] else u') := by
        intro u u' b hr
        cases ok
        · exact hr
        · exact pair_rel hr b
      split at hl
      · split at hl
        · rename_i q hq
          cases hl
          cases rx
          refine ⟨_, ?_, fin z z false (flat_rel ρ hzf)⟩
          have hf : Instr.findNow kd i' [] 0 = some none := rfl
          simp [Instr.lookup, run_underlying hu, checkKey_run hkd hkk, findKey_run hkd hf, hzr]
        · cases hl
      · rename_i b
        split at hl
        · rename_i es clock hg
          cases rx with
          | map b c d hρ =>
          obtain ⟨es', hw, hlen, _, hle⟩ := (r.obj _ _ _ _ hρ hg).mapOf
          split at hl
          · rename_i j u hf
            cases hl
            obtain ⟨v', hf', rv, _⟩ := aFind_some ri hle hf
            refine ⟨_, ?_, fin u v' true rv⟩
            simp [Instr.lookup, run_underlying hu, checkKey_run hkd hkk, getMap_run hw, findKey_run hkd hf']
          · rename_i hf
            cases hl
            have hf' := aFind_none ri hle hf
            refine ⟨_, ?_, fin z z false (flat_rel ρ hzf)⟩
            simp [Instr.lookup, run_underlying hu, checkKey_run hkd hkk, getMap_run hw, findKey_run hkd hf', hzr]
          · cases hl
        · cases hl
      · cases hl
    · cases hl
  · cases hl

/-! Loads. -/
def aLoad (P : Program) (h : AHeap) (t : TypeId) (x : Value) : Option Value :=
  match x, aggQ P t, szQ P t with
  | .pointer (some a), some true, some n => match aload h a n with
    | some l => some (.agg l.toArray)
    | none => none
  | .pointer (some a), some false, _ => match aload h a 1 with
    | some [v] => some v
    | _ => none
  | _, _, _ => none

theorem one_load {P : Program} {w : World} {a : Addr} {arr : Array Value} (h : (loadCells a 1).run P w = .ok arr w) : ∃ v, arr = #[v] ∧ (load a).run P w = .ok v w := by
  have e : a.add 0 = a := by simp [Addr.add]
  simp only [loadCells, loadCellsFrom, Sem.run_bind, e] at h
  cases hr : (load a).run P w with
  | ok v w1 =>
    rw [hr] at h
    simp at h
    obtain ⟨h1, rfl⟩ := h
    exact ⟨v, h1.symm, rfl⟩
  | halt x w1 => rw [hr] at h; simp at h

theorem aLoad_sound {P : Program} {ρ : Inj} {h : AHeap} {w : World} (r : Rel ρ h w) {t : TypeId} {x x' v : Value} (hl : aLoad P h t x = some v) (rx : VRel ρ x x') :
    ∃ v', (Instr.loadAt t x').run P w = .ok v' w ∧ VRel ρ v v' := by
  unfold aLoad at hl
  split at hl
  · rename_i a n ha hs
    split at hl
    · rename_i l hal
      cases hl
      cases rx with
      | ptr b o c d hρ =>
      obtain ⟨arr, h1, h2, _⟩ := aload_sound P r hal (.ptr b o c d hρ)
      exact ⟨.agg arr, by simp [Instr.loadAt, Instr.sureAddr, loadVar, run_isAgg w ha, run_sizeOf w hs, h1], .agg_of h2⟩
    · cases hl
  · rename_i a n ha
    split at hl
    · rename_i u hal
      cases hl
      cases rx with
      | ptr b o c d hρ =>
      obtain ⟨arr, h1, h2, _⟩ := aload_sound P r hal (.ptr b o c d hρ)
      obtain ⟨v', rfl, h3⟩ := one_load h1
      exact ⟨v', by simp only [Instr.loadAt, Instr.sureAddr, loadVar, Sem.run_bind, run_isAgg w ha, Sem.run_pure, Result.andThen_ok]; rw [if_neg (by decide)]; exact h3, h2.2 0 v v' (by simp) (by simp)⟩
    · cases hl
  · cases hl

/-! Bytes as a string. -/
def toBytes : List Value → Option (List UInt8)
  | [] => some []
  | .int .u8 (.ofNat n) :: r => match toBytes r with
    | some l => some (UInt8.ofNat n :: l)
    | none => none
  | _ => none

theorem toBytes_rel {ρ : Inj} : ∀ {l : List Value} {x : List UInt8} {arr : Array Value}, toBytes l = some x → ARel ρ l.toArray arr → arr.toList = l ∧ ∃ ns : List Nat, l = ns.map (fun n => .int .u8 (.ofNat n)) ∧ x = ns.map UInt8.ofNat
  | [], x, arr, h, r => by
    simp [toBytes] at h; subst h
    have : arr.size = 0 := by have := r.1; simpa using this.symm
    exact ⟨by simpa using this, [], rfl, rfl⟩
  | v :: l, x, arr, h, r => by
    unfold toBytes at h
    split at h
    · rename_i h0; cases h0
    · rename_i n l2 heq
      injection heq with e1 e2
      subst e1; subst e2
      split at h
      · rename_i y hy
        cases h
        have hsz : arr.size = l.length + 1 := by have := r.1; simp at this; omega
        obtain ⟨a0, ar, hal⟩ : ∃ a0 ar, arr.toList = a0 :: ar := by
          cases hh : arr.toList with
          | nil =>
            have h0 : arr.size = 0 := by rw [← Array.length_toList, hh]; rfl
            omega
          | cons a b => exact ⟨a, b, rfl⟩
        have harr : arr = (a0 :: ar).toArray := by rw [← hal]
        subst harr
        have r0 := r.2 0 (.int .u8 (.ofNat n)) a0 (by simp) (by simp)
        cases r0
        obtain ⟨h1, ns, h2, h3⟩ := toBytes_rel (arr := ar.toArray) hy ⟨by simpa using r.1, fun i u u' a b => r.2 (i + 1) u u' (by simpa using a) (by simpa using b)⟩
        simp at h1
        subst h1
        exact ⟨rfl, n :: ns, by simp [h2], by simp [h3]⟩
      · cases h
    · cases h


theorem bytes_push {g : Value → ByteArray → Sem (ForInStep ByteArray)} (hg : ∀ (n : Nat) s, g (.int .u8 (.ofNat n)) s = pure (ForInStep.yield (s.push (UInt8.ofNat n)))) (ns : List Nat) :
    ∀ (s : ByteArray) (w : World) (P : Program),
    (forIn (ns.map fun n => Value.int .u8 (.ofNat n)) s g).run P w = .ok ⟨⟨s.data.toList ++ ns.map UInt8.ofNat⟩⟩ w := by
  induction ns with
  | nil => intro s w P; simp
  | cons n ns ih =>
    intro s w P
    simp only [List.map_cons, List.forIn_cons, hg, Sem.run_bind, Sem.run_pure, Result.andThen_ok]
    have := ih (s.push (UInt8.ofNat n)) w P
    have e : (s.push (UInt8.ofNat n)).data.toList = s.data.toList ++ [UInt8.ofNat n] := by
      obtain ⟨⟨x⟩⟩ := s
      simp [ByteArray.push]
    rw [e, List.append_assoc] at this
    exact this

def aStrOf (P : Program) (h : AHeap) (src dst : TypeId) (x : Value) : Option Value :=
  match P.underlying src, P.underlying dst, x with
  | some (.slice e), some .string, .slice none _ _ => match P.underlying e with
    | some (.int .u8) => some (.string ⟨⟨[]⟩⟩)
    | _ => none
  | some (.slice e), some .string, .slice (some a) n _ => match P.underlying e, aload h a n with
    | some (.int .u8), some l => match toBytes l with
      | some bs => some (.string ⟨⟨bs⟩⟩)
      | none => none
    | _, _ => none
  | _, _, _ => none

theorem aStrOf_sound {P : Program} {ρ : Inj} {h : AHeap} {w : World} (r : Rel ρ h w) {src dst : TypeId} {x x' v : Value} (hl : aStrOf P h src dst x = some v) (rx : VRel ρ x x') :
    (convert src dst x').run P w = .ok v w ∧ plain v = true := by
  unfold aStrOf at hl
  split at hl
  · rename_i e n k hu1 hu2
    split at hl
    · rename_i hu3
      cases hl; cases rx
      exact ⟨by simp [convert, run_underlying hu1, run_underlying hu2, run_underlying hu3, Conv.bytesToString]; rfl, rfl⟩
    · cases hl
  · rename_i e a n k hu1 hu2
    split at hl
    · rename_i l hu3 hal
      split at hl
      · rename_i bs hb
        cases hl
        have hex : ∃ a' k', x' = .slice (some a') n k' ∧ ∃ arr, (loadCells a' n).run P w = .ok arr w ∧ ARel ρ l.toArray arr := by
          cases rx with
          | slice b o c d n k k' hρ hk =>
            obtain ⟨arr, h1, h2, _⟩ := aload_sound P r hal (.ptr b o c d hρ)
            exact ⟨_, _, rfl, arr, h1, h2⟩
          | wild a a' k' hs =>
            have : l = [] := by
              unfold aload at hal
              split at hal
              · simp [cut] at hal; exact hal
              · cases hal
            subst this
            exact ⟨_, _, rfl, #[], by simp [loadCells, loadCellsFrom], ARel.nil ρ⟩
        obtain ⟨a', k', rfl, arr, h1, h2⟩ := hex
        obtain ⟨h3, ns, h4, h5⟩ := toBytes_rel hb h2
        refine ⟨?_, rfl⟩
        simp only [convert, Sem.run_bind, run_underlying hu1, run_underlying hu2, run_underlying hu3, Result.andThen_ok, Conv.bytesToString, h1]
        rw [← Array.forIn_toList, h3, h4, bytes_push (fun n s => rfl) ns ByteArray.empty w P]
        simp only [Result.andThen_ok, Sem.run_pure, h5]
        rfl
      · cases hl
    · cases hl
  · cases hl

/-! How many entries a map has. -/
def aLenMap (P : Program) (h : AHeap) (t : TypeId) (x : Value) : Option Value :=
  match P.underlying t, x with
  | some (.map _ _), .map (some r) => match h.get r with
    | some (.map es _) => some (goInt es.length)
    | _ => none
  | _, _ => none

theorem aLenMap_sound {P : Program} {ρ : Inj} {h : AHeap} {w : World} (r : Rel ρ h w) {t : TypeId} {x x' v : Value} {ts : Array TypeId} {ty : TypeId} (hl : aLenMap P h t x = some v)
    (ht : ts[0]? = some t) (rx : VRel ρ x x') : (Builtin.len_ ts ty #[x']).run P w = .ok v w ∧ plain v = true := by
  unfold aLenMap at hl
  split at hl
  · rename_i key elem b hu
    split at hl
    · rename_i es clock hg
      cases hl
      cases rx with
      | map b c d hρ =>
      obtain ⟨es', hw, hlen, _, _⟩ := (r.obj _ _ _ _ hρ hg).mapOf
      exact ⟨by simp [Builtin.len_, ht, run_underlying hu, getMap_run hw, hlen], rfl⟩
    · cases hl
  · cases hl

end Go.Tw
