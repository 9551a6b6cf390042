/- A second machine for Go's model: functions. Conditions: none. -/
import Derived.Test.YtdbnepjmepelcaaTwX
import Derived.RangeFuncLeaves
namespace Go.Tw

theorem fill_get : ∀ (args : List Value) (i : Nat) (t : Tr Value) (j : Nat), i + args.length < lim →
    (Tmps.fill i args t).get j = if i ≤ j ∧ j < i + args.length then args[j - i]? else t.get j
  | [], i, t, j, h => by
    have : ¬ (i ≤ j ∧ j < i + ([] : List Value).length) := by simp
    simp only [Tmps.fill, if_neg this]
  | v :: r, i, t, j, h => by
    simp only [List.length_cons] at h
    simp only [Tmps.fill]
    rw [fill_get r (i + 1) _ j (by omega), Tr.get_setK 20 t i (some v) j (by unfold lim at h; omega)]
    simp only [List.length_cons]
    by_cases e : j = i
    · subst e
      have c : ¬ (j + 1 ≤ j ∧ j < j + 1 + r.length) := by omega
      have c' : j ≤ j ∧ j < j + (r.length + 1) := by omega
      rw [if_neg c, if_pos c', if_pos rfl]
      simp
    · by_cases c : i + 1 ≤ j ∧ j < i + 1 + r.length
      · have c' : i ≤ j ∧ j < i + (r.length + 1) := by omega
        rw [if_pos c, if_pos c']
        have : j - i = (j - (i + 1)) + 1 := by omega
        rw [this, List.getElem?_cons_succ]
      · have c' : ¬ (i ≤ j ∧ j < i + (r.length + 1)) := by omega
        rw [if_neg c, if_neg c', if_neg e]

theorem TRel.enter {ρ : Inj} {args : List Value} {args' : Array Value} (r : ARel ρ args.toArray args') {n : Nat} (hn : args.length + n < lim) :
    TRel ρ (Tmps.mk' args n) (args' ++ Array.replicate (n - args'.size) undef) := by
  have hs : args.length = args'.size := by simpa using r.1
  refine ⟨by simp [Tmps.mk', hs], by simp only [Tmps.mk']; omega, fun i v h => ?_⟩
  simp only [Tmps.mk'] at h
  rw [fill_get args 0 .nil i (by omega)] at h
  by_cases c : 0 ≤ i ∧ i < 0 + args.length
  · rw [if_pos c] at h
    simp only [Nat.sub_zero] at h
    obtain ⟨v', h1, h2⟩ := r.get (i := i) (u := v) (by simpa using h)
    rw [Array.getD_eq_getD_getElem?, Array.getElem?_append_left (by omega), h1]
    exact h2
  · rw [if_neg c] at h
    cases h

theorem aResult_sound {P : Program} {ρ : Inj} {T : Tmps} {t : Array Value} {h : AHeap} {w : World} (rt : TRel ρ T t) (r : Rel ρ h w) : ∀ {l : List ResultVar} {vs : List Value}, aResult P T h l = some vs →
    ∃ vs', (l.mapM (m := Sem) fun | .tmp i => pure (t.getD i undef) | .cell a ty => do loadVar ty (← asAddr (t.getD a undef))).run P w = .ok vs' w ∧ ARel ρ vs.toArray vs'.toArray
  | [], vs, e => by
    cases e
    exact ⟨[], rfl, ARel.nil _⟩
  | x :: l, vs, e => by
    unfold aResult at e
    split at e
    · rename_i v l' hv hl
      cases e
      obtain ⟨vs', h1, h2⟩ := aResult_sound rt r hl
      have : ∃ v', ((match x with | .tmp i => pure (t.getD i undef) | .cell a ty => do loadVar ty (← asAddr (t.getD a undef))) : Sem Value).run P w = .ok v' w ∧ VRel ρ v v' := by
        cases x with
        | tmp i => exact ⟨_, rfl, rt.2.2 i v hv⟩
        | cell a ty =>
          simp only at hv
          split at hv
          · rename_i u hu
            have ru := rt.2.2 a u hu
            obtain ⟨v', g1, g2⟩ := aLoad_sound r hv ru
            refine ⟨v', ?_, g2⟩
            show ((do loadVar ty (← asAddr (t.getD a undef))) : Sem Value).run P w = .ok v' w
            generalize t.getD a undef = y at ru g1 ⊢
            cases ru <;> simp [aLoad] at hv
            simpa [Instr.loadAt, Instr.sureAddr, asAddr] using g1
          · cases hv
      obtain ⟨v', g1, g2⟩ := this
      refine ⟨v' :: vs', ?_, ?_⟩
      · rw [List.mapM_cons]
        simp only [Sem.run_bind, Sem.run_pure]
        rw [g1]
        simp only [Result.andThen_ok]
        rw [h1]
        rfl
      · have := (ARel.one g2).append h2
        simpa using this
    · cases e

theorem results_sound {P : Program} {ρ : Inj} {T : Tmps} {t : Array Value} {h : AHeap} {w : World} (rt : TRel ρ T t) (r : Rel ρ h w) {fn : Func} {vs : List Value} (e : aResult P T h fn.results.toList = some vs) :
    ∃ v', (results fn t).run P w = .ok v' w ∧ VRel ρ (single vs) v' := by
  obtain ⟨vs', h1, h2⟩ := aResult_sound rt r e
  have hs : vs.length = vs'.length := by simpa using h2.1
  have key : (results fn t).run P w = .ok (if h : vs'.toArray.size = 1 then vs'.toArray[0] else .tuple vs'.toArray) w := by
    unfold results
    rw [Array.mapM_eq_mapM_toList]
    simp only [Sem.run_bind, Sem.run_pure, Sem.run_map]
    erw [h1]
    rfl
  refine ⟨_, key, ?_⟩
  clear key h1 e
  match vs, vs', hs, h2 with
  | [], [], _, h2 => exact .tuple_of h2
  | [v], [v'], _, h2 => exact h2.2 0 v v' (by simp) (by simp)
  | v :: u :: r, v' :: u' :: r', _, h2 =>
    have : ¬ (v' :: u' :: r').toArray.size = 1 := by simp
    rw [dif_neg this]
    exact .tuple_of h2

/-- What is known of the functions besides. -/
structure EnvAll (env : Env) : Prop extends EnvOk env where
  sum : ∀ f s, env.sum f = some s → ∀ args h v h', s args h = some (v, h') → h.next ≤ h'.next ∧ ∀ ρ w args', Rel ρ h w → ARel ρ args.toArray args' → Free ρ h h' →
    ∃ v' w' ρ', CallTo env.P f args' w v' w' ∧ VRel ρ' v v' ∧ Rel ρ' h' w' ∧ Ext ρ h w ρ' h' w'
  ext : ∀ f args v, env.ext f args = some v → ∀ ρ w args', ARel ρ args.toArray args' → ∃ v' w', (callFunc f args').run env.P w = .ok (.value v') w' ∧ VRel ρ v v' ∧ HeapIs w w' w.heap
  pro : ∀ (f : FuncId) (p : St → Option St) (rest : Code), env.pro f = some (p, rest) → ∀ (fn : Func) (body : Code), env.P.funcs[f]? = some fn → fn.body = some body → ∀ st st', p st = some st' →
    st.h.next ≤ st'.h.next ∧ ∀ ρ a w b, b.fn = f → b.roundOf = none → SRel ρ st a w → Free ρ st.h st'.h → ∃ a' w' ρ', SRel ρ' st' a' w' ∧ Ext ρ st.h w ρ' st'.h w' ∧
      ∀ k cs, Steps env.P (lone (fat b a (.code body :: k)) cs w) (lone (fat b a' (.code rest :: k)) cs w')

theorem next_aUnwind {P : Program} {lo : Lo} (hlo : LoOk P lo) : ∀ (n : Nat) (ds : List Deferred) (h h' : AHeap), aUnwind lo n ds h = some h' → h.next ≤ h'.next
  | n, [], h, h', e => by cases n <;> cases e <;> exact Nat.le_refl _
  | 0, _ :: _, h, h', e => by cases e
  | n + 1, d :: ds, h, h', e => by
    unfold aUnwind at e
    split at e
    · split at e
      · rename_i h1
        exact Nat.le_trans (hlo.dcall _ _ _ _ h1).1 (next_aUnwind hlo n _ _ _ e)
      · cases e
    · split at e
      · have := next_aUnwind hlo n _ _ _ e
        exact this
      · cases e
    · cases e

theorem DsRel.append {ρ : Inj} : ∀ {l l' m m' : List Deferred}, DsRel ρ l l' → DsRel ρ m m' → DsRel ρ (l ++ m) (l' ++ m')
  | [], [], _, _, _, h => h
  | _ :: _, _ :: _, _, _, ⟨r, rs⟩, h => ⟨r, DsRel.append rs h⟩
  | [], _ :: _, _, _, r, _ => r.elim
  | _ :: _, [], _, _, r, _ => r.elim

/-- A frame on its way out. -/
def out (b : Frame) (t : Array Value) (todo : List Item) (ds : List Deferred) : Frame :=
  { fn := b.fn, tmps := t, todo := todo, defers := ds, mode := .returning, kind := b.kind, roundOf := b.roundOf }

theorem fs_deferred {P : Program} {b : Frame} {t : Array Value} {todo : List Item} {d : Deferred} {ds : List Deferred} {cs : List Frame} {w : World} {g : FuncId} {args : Array Value} {cap : Array Value}
    (ht : d.target = .fn (.func g) cap) (h : (callFunc g (d.args ++ cap)).run P w = .ok (.enter g args) w) :
    step P (lone (out b t todo (d :: ds)) cs w) = .next (lone (Frame.enter P g args .deferred) (out b t todo ds :: cs) w) := by
  obtain ⟨tg, as⟩ := d
  simp only at ht
  subst ht
  refine step_lone_go ?_
  simp only at h
  simp [stepG, unwind, out, callDeferred, invoke, Sem.runT_eq, h, GStep.bare_after]

theorem aUnwind_sound {P : Program} {lo : Lo} (hlo : LoOk P lo) : ∀ (n : Nat) (ds : List Deferred) (h h' : AHeap), aUnwind lo n ds h = some h' → ∀ ρ w ds', Rel ρ h w → DsRel ρ ds ds' → Free ρ h h' →
    ∃ w' ρ', Rel ρ' h' w' ∧ Ext ρ h w ρ' h' w' ∧ ∀ b t todo cs, Steps P (lone (out b t todo ds') cs w) (lone (out b t todo []) cs w')
  | n, [], h, h', e, ρ, w, ds', r, rd, hf => by
    have : h' = h := by cases n <;> cases e <;> rfl
    subst this
    cases ds' with
    | nil => exact ⟨w, ρ, r, Ext.refl _ _ _, fun b t todo cs => Steps.refl _ _⟩
    | cons => exact rd.elim
  | 0, _ :: _, h, h', e, _, _, _, _, _, _ => by cases e
  | n + 1, d :: ds, h, h', e, ρ, w, ds', r, rd, hf => by
    cases ds' with
    | nil => exact rd.elim
    | cons d' ds' =>
    obtain ⟨rd, rds⟩ := rd
    obtain ⟨tg, as⟩ := d
    obtain ⟨tg', as'⟩ := d'
    obtain ⟨ra, rt⟩ := rd
    unfold aUnwind at e
    split at e
    · rename_i g cap hd
      simp only at hd ra
      subst hd
      split at e
      · rename_i h1 hc
        obtain ⟨n1, hcall⟩ := hlo.dcall _ _ _ _ hc
        have n2 := next_aUnwind hlo n _ _ _ e
        cases tg' <;> simp only at rt
        rename_i f' cap'
        cases rt with
        | func _ hfn _ _ _ _ hx hy rx ry =>
        have rc : ARel ρ cap cap' := ⟨hy, ry⟩
        have rargs := ra.append rc
        have e1 : (as.toList ++ cap.toList).toArray = as ++ cap := by
          apply Array.ext'
          simp
        simp only at hcall
        rw [e1] at hcall
        obtain ⟨v', w1, ρ1, g1, g2, r1, x1⟩ := hcall ρ w _ r rargs (hf.left n2)
        obtain ⟨w', ρ', r', x', s'⟩ := aUnwind_sound hlo n ds h1 h' e ρ1 w1 ds' r1 (rds.mono x1.mono) (hf.right x1)
        refine ⟨w', ρ', r', x1.trans x', fun b t todo cs => ?_⟩
        have s0 := fs_deferred (P := P) (b := b) (t := t) (todo := todo) (d := { target := .fn (.func g) cap', args := as' }) (ds := ds') (cs := cs) (w := w) rfl g1
        obtain ⟨fr, _, h8, h9⟩ := g2 (out b t todo ds' :: cs)
        exact Steps.head s0 (h8.trans (Steps.head (fs_backD h9 rfl) (s' b t todo cs)))
      · cases e
    · rename_i blk hd
      simp only at hd
      subst hd
      split at e
      · rename_i l hb
        cases tg' <;> simp only at rt
        rename_i blk'
        obtain ⟨x, hρ⟩ := rt
        have ho := r.obj _ _ _ _ hρ hb
        generalize hw : w.heap[blk']? = o at ho
        cases ho with
        | deferred _ l' _ hl =>
        let w1 : World := { w with heap := w.heap.setIfInBounds blk' (.deferred none) }
        obtain ⟨r1, x1⟩ := r.write (w' := w1) (o' := .deferred none) (x := .deferred none) hρ hb rfl rfl (.deferredNone _)
        obtain ⟨w', ρ', r', x', s'⟩ := aUnwind_sound hlo n (l ++ ds) _ h' e ρ w1 (l' ++ ds') r1 (hl.append rds) (hf.right x1)
        refine ⟨w', ρ', r', x1.trans x', fun b t todo cs => ?_⟩
        have hk : (Instr.takeDeferred blk').run P w = .ok l' w1 := by simp [Instr.takeDeferred, getObj, setObj, Sem.run, hw, w1]
        have s0 := step_collected (P := P) (fr := out b t todo ({ target := .collected blk', args := as' } :: ds')) (cs := cs) (by simp [out]) rfl rfl hk
        exact Steps.head s0 (s' b t todo cs)
      · cases e
    · cases e

theorem callFunc_enter {P : Program} {f : FuncId} {fn : Func} {body : Code} (hf : P.funcs[f]? = some fn) (hb : fn.body = some body) (hn : (fn.name == "runtime.NumGoroutine") = false) (args : Array Value) (w : World) :
    (callFunc f args).run P w = .ok (.enter f args) w := by
  have hn' : ¬ fn.name = "runtime.NumGoroutine" := fun e => by rw [e] at hn; simp at hn
  simp [callFunc, hf, hb, hn']

theorem aFrame_sound {env : Env} (henv : EnvAll env) {lo : Lo} (hlo : LoOk env.P lo) (hdr : DrawSound env lo) {f : FuncId} {args : List Value} {h h' : AHeap} {v : Value} (e : aFrame env lo f args h = some (v, h')) (kind : CallKind) :
    h.next ≤ h'.next ∧ ∀ ρ w args', Rel ρ h w → ARel ρ args.toArray args' → Free ρ h h' →
    ∃ v' w' ρ', (callFunc f args').run env.P w = .ok (.enter f args') w ∧ RetTo env.P kind f args' w v' w' ∧ VRel ρ' v v' ∧ Rel ρ' h' w' ∧ Ext ρ h w ρ' h' w' := by
  unfold aFrame at e
  split at e
  · rename_i fn hfn
    split at e
    · rename_i body hbody
      obtain ⟨hlt, e⟩ := cond_some e
      have hlt : args.length + fn.ntmps < lim := by simp [Nat.blt] at hlt; omega
      -- the code
      have key : ∀ ex st, (match env.pro f with
          | some (p, rest) => match p { T := Tmps.mk' args fn.ntmps, ds := [], h := h } with
            | some st => aCode env lo f none codeFuel rest st
            | none => none
          | none => aCode env lo f none codeFuel body { T := Tmps.mk' args fn.ntmps, ds := [], h := h }) = some (ex, st) →
          h.next ≤ st.h.next ∧ ∀ ρ a w b, b.fn = f → b.roundOf = none → SRel ρ { T := Tmps.mk' args fn.ntmps, ds := [], h := h } a w → Free ρ h st.h →
          ∃ a' w' ρ', SRel ρ' st a' w' ∧ Ext ρ h w ρ' st.h w' ∧ CodeTo env.P b a body w ex a' w' := by
        intro ex st hc
        split at hc
        · rename_i p rest hp
          split at hc
          · rename_i st1 h1
            obtain ⟨n1, g1⟩ := henv.pro f p rest hp fn body hfn hbody _ _ h1
            have n2 := next_aCode hlo hdr codeFuel hc
            refine ⟨Nat.le_trans n1 n2, fun ρ a w b hb1 hb2 r hf => ?_⟩
            obtain ⟨a1, w1, ρ1, r1, x1, s1⟩ := g1 ρ a w b hb1 hb2 r (hf.left n2)
            obtain ⟨a2, w2, ρ2, r2, x2, s2⟩ := aCode_sound henv.toEnvOk hlo hdr codeFuel hc (b := b) hb1 hb2 r1 (hf.right x1)
            refine ⟨a2, w2, ρ2, r2, x1.trans x2, fun k cs => ?_⟩
            have s2 := s2 k cs
            cases ex with
            | norm => exact (s1 k cs).trans s2
            | exit id => obtain ⟨todo, s2, t2⟩ := s2; exact ⟨todo, (s1 k cs).trans s2, t2⟩
            | goto l => obtain ⟨todo, s2, t2⟩ := s2; exact ⟨todo, (s1 k cs).trans s2, t2⟩
            | ret => obtain ⟨todo, s2⟩ := s2; exact ⟨todo, (s1 k cs).trans s2⟩
          · cases hc
        · exact ⟨next_aCode hlo hdr codeFuel hc, fun ρ a w b hb1 hb2 r hf => aCode_sound henv.toEnvOk hlo hdr codeFuel hc (b := b) hb1 hb2 r hf⟩
      -- how it ends
      have fin : ∀ ex st, (ex = .norm ∨ ex = .ret) → (match env.pro f with
          | some (p, rest) => match p { T := Tmps.mk' args fn.ntmps, ds := [], h := h } with
            | some st => aCode env lo f none codeFuel rest st
            | none => none
          | none => aCode env lo f none codeFuel body { T := Tmps.mk' args fn.ntmps, ds := [], h := h }) = some (ex, st) →
          (match aUnwind lo 1000 st.ds st.h with
          | some h' => match aResult env.P st.T h' fn.results.toList with
            | some l => some (single l, h')
            | none => none
          | none => none) = some (v, h') →
          h.next ≤ h'.next ∧ ∀ ρ w args', Rel ρ h w → ARel ρ args.toArray args' → Free ρ h h' →
          ∃ v' w' ρ', (callFunc f args').run env.P w = .ok (.enter f args') w ∧ RetTo env.P kind f args' w v' w' ∧ VRel ρ' v v' ∧ Rel ρ' h' w' ∧ Ext ρ h w ρ' h' w' := by
        intro ex st hex hc e
        obtain ⟨n1, g1⟩ := key ex st hc
        split at e
        · rename_i h2 hu
          split at e
          · rename_i l hr
            cases e
            have n2 := next_aUnwind hlo _ _ _ _ hu
            refine ⟨Nat.le_trans n1 n2, fun ρ w args' r ra hf => ?_⟩
            let b : Frame := { fn := f, tmps := #[], todo := [], defers := [], mode := .run, kind := kind }
            let a : Act := { tmps := args' ++ Array.replicate (fn.ntmps - args'.size) undef, defers := [] }
            obtain ⟨a1, w1, ρ1, r1, x1, s1⟩ := g1 ρ a w b rfl rfl ⟨TRel.enter ra hlt, trivial, r⟩ (hf.left n2)
            obtain ⟨w2, ρ2, r2, x2, s2⟩ := aUnwind_sound hlo _ _ _ _ hu ρ1 w1 a1.defers r1.h r1.ds (hf.right x1)
            obtain ⟨v', g3, g4⟩ := results_sound (P := env.P) (r1.T.mono x2.mono) r2 hr
            refine ⟨v', w2, ρ2, callFunc_enter hfn hbody (henv.names f fn body hfn hbody) args' w, fun cs => ?_, g4, r2, x1.trans x2⟩
            have hent : Frame.enter env.P f args' kind = fat b a [.code body] := by
              simp [Frame.enter, fat, hfn, hbody, b, a]
            rw [hent]
            have s1 := s1 [] cs
            have : ∃ todo, Steps env.P (lone (fat b a [.code body]) cs w) (lone (out b a1.tmps todo a1.defers) cs w1) := by
              rcases hex with rfl | rfl
              · exact ⟨[], Steps.trans s1 (Steps.one (fs_end rfl))⟩
              · obtain ⟨todo, s1⟩ := s1
                exact ⟨_, Steps.trans s1 (Steps.one (fs_ret rfl))⟩
            obtain ⟨todo, s3⟩ := this
            exact ⟨out b a1.tmps todo [], rfl, s3.trans (s2 b a1.tmps todo cs), rfl, rfl, rfl, fn, hfn, g3⟩
          · cases e
        · cases e
      split at e
      · rename_i st hc
        exact fin .norm st (.inl rfl) hc e
      · rename_i st hc
        exact fin .ret st (.inr rfl) hc e
      · cases e
    · cases e
  · cases e

end Go.Tw
