/- A second machine for Go's model: what a law's proof begins and ends with. Conditions: none. -/
import Derived.Test.YtdbnepjmepelcaaTwDD
import Derived.ChangeSame
import Derived.KernelRfl
namespace Go.Tw

/-- How a frame ends. -/
def finish (P : Program) (lo : Lo) (fn : Func) (r : Option (AExit × St)) : Option (Value × AHeap) := match r with
  | some (.norm, st) | some (.ret, st) => match aUnwind lo 1000 st.ds st.h with
    | some h' => match aResult P st.T h' fn.results.toList with
      | some l => some (single l, h')
      | none => none
    | none => none
  | _ => none

theorem aFrame_of {env : Env} {lo : Lo} {f : FuncId} {fn : Func} {body : Code} {args : List Value} {h : AHeap} {r : Option (Value × AHeap)} (hf : env.P.funcs[f]? = some fn) (hb : fn.body = some body)
    (hp : env.pro f = none) (hl : Nat.blt (args.length + fn.ntmps) lim = true)
    (hr : finish env.P lo fn (aCode env lo f none codeFuel body { T := Tmps.mk' args fn.ntmps, ds := [], h := h }) = r) : aFrame env lo f args h = r := by
  subst hr
  unfold aFrame
  rw [hf]
  simp only [hb, hl, hp, cond_true]
  rfl

def isNorm (r : Option (AExit × St)) : Bool := match r with
  | some (.norm, _) => true
  | _ => false

def stOf (d : St) (r : Option (AExit × St)) : St := match r with
  | some (_, st) => st
  | none => d

theorem norm_of {r : Option (AExit × St)} (d : St) (h : isNorm r = true) : r = some (.norm, stOf d r) := by
  unfold isNorm at h
  split at h
  · rfl
  · cases h

def seqL : Code → Code
  | .seq x _ => x
  | c => c

def seqR : Code → Code
  | .seq _ y => y
  | c => c

theorem seq_step {env : Env} {lo : Lo} {fn : FuncId} {round : Option Nat} {n : Nat} {x y : Code} {st st' : St} (h : aCode env lo fn round n x st = some (.norm, st')) :
    aCode env lo fn round (n + 1) (.seq x y) st = aCode env lo fn round n y st' := by
  conv => lhs; unfold aCode
  simp only [h]

/-- A part that comes to no jump, or to one. -/
theorem seq_cases {env : Env} {lo : Lo} {fn : FuncId} {round : Option Nat} {n : Nat} {x y : Code} {st : St} :
    aCode env lo fn round (n + 1) (.seq x y) st = (match aCode env lo fn round n x st with
      | some (.norm, st') => aCode env lo fn round n y st'
      | r => r) := by
  conv => lhs; unfold aCode
  rfl

theorem cond_step {env : Env} {lo : Lo} {fn : FuncId} {round : Option Nat} {n : Nat} {c : Operand} {x y : Code} {st : St} {b : Bool} (h : aEval st.T c = some (.bool b)) :
    aCode env lo fn round (n + 1) (.cond c x y) st = aCode env lo fn round n (cond b x y) st := by
  conv => lhs; unfold aCode
  simp only [h]

def boolAt (T : Tmps) (t : Nat) : Bool := match T.t.get t with
  | some (.bool b) => b
  | _ => false

def isBool (T : Tmps) (t : Nat) : Bool := match T.t.get t with
  | some (.bool _) => true
  | _ => false

theorem bool_of {T : Tmps} {t : Nat} (h : isBool T t = true) : aEval T (.tmp t) = some (.bool (boolAt T t)) := by
  unfold isBool at h
  show T.t.get t = _
  unfold boolAt
  split at h
  · rename_i b hb
    rw [hb]
  · cases h

/-- The answer 'true'. -/
def isTrue (r : Option (Value × AHeap)) : Bool := match r with
  | some (.bool b, _) => b
  | _ => false

theorem true_of {r : Option (Value × AHeap)} (h : isTrue r = true) : ∃ h', r = some (.bool true, h') := by
  unfold isTrue at h
  split at h
  · rename_i b h'
    subst h
    exact ⟨h', rfl⟩
  · cases h

theorem names_of {P : Program} (h : (P.funcs.toList.all fun fn => fn.body.isNone || !(fn.name == "runtime.NumGoroutine")) = true) (f : FuncId) (fn : Func) (body : Code) (hf : P.funcs[f]? = some fn) (hb : fn.body = some body) :
    (fn.name == "runtime.NumGoroutine") = false := by
  have := List.all_eq_true.mp h fn (by
    have := List.mem_of_getElem? (l := P.funcs.toList) (i := f) (a := fn) (by simpa using hf)
    exact this)
  rw [hb] at this
  simpa using this

/-- Of the world that was there, nothing has turned. -/
theorem kept_of {ρ ρ' : Inj} {h h' : AHeap} {w w' : World} (e : Ext ρ h w ρ' h' w') (hm : ∀ c, ¬ Mine ρ h c) (may : MemPlace → Prop) : w.keptBut w' may := by
  refine ⟨e.out.1, e.out.2, fun i hi => ?_⟩
  rw [e.frame i hi (hm i)]
  exact (World.keptBut_refl w may).2.2 i hi

/-- A run from nothing. -/
theorem calls_empty {env : Env} (henv : EnvAll env) {d : Nat} {f : FuncId} {args : List Value} {args' : Array Value} {v : Value} {h' : AHeap} (e : aFrame env (lvl env d) f args ⟨.nil, 0⟩ = some (v, h')) (hv : plain v = true)
    (ra : ARel (fun _ => none) args.toArray args') (w : World) : Calls env.P f args' w fun e w' => e = .returned v ∧ w.keptBut w' (fun _ => False) := by
  have hdr : ∀ lo, LoOk env.P lo → DrawSound env lo := fun lo h => drawSound h
  obtain ⟨_, hs⟩ := aFrame_sound henv (lvl_ok henv hdr d) (hdr _ (lvl_ok henv hdr d)) e .normal
  have hr : Rel (fun _ => none) ⟨.nil, 0⟩ w :=
    { obj := fun b c d o h => (nomatch h), sep := fun b b' c d d' o o' _ h => (nomatch h), dom := fun b c d h => (nomatch h), small := by show 0 < 1048575; omega }
  obtain ⟨v', w', ρ', _, hret, rv, _, hx⟩ := hs _ w args' hr ra (fun _ _ _ => rfl)
  have : v' = v := plain_eq rv hv
  subst this
  intro cs
  obtain ⟨fr, h0, h1, h2⟩ := hret cs
  obtain ⟨g1, g2, g3, fn, g4, g5⟩ := h2
  refine ⟨.returned v', w', fr, ⟨rfl, kept_of hx (fun c ⟨b, d, o, hb, _⟩ => by cases hb) _⟩, h1, h0, g1, g2, g3, fn, g4, g5⟩

/-- The row's last step, where nothing has turned. -/
theorem post_kept {H : Type} {enc : TypeId × Value → H} {P : Program} {f : Func} {s : ChangeSpec} {apart fresh handsOn : Bool} {W W' : World} {args : Array Value} {v : Value} {ds gs : List (DataW H)} {before pa pv : List MemPlace}
    (hW : DataW.Whole enc P f.params.toList s.vars apart W args.toList ds gs before)
    (hres : ∀ (b : Nat) (sp : Nat → Bool) (hd : Bool), DataW.TrodAll enc P W' b sp hd f.resultTypes.toList (v.resultList f.resultTypes.size) (s.fn H (ds ++ gs)).results [])
    (hargs : ∀ sp : Nat → Bool, (∀ p ∈ before, sp p.block = true) → DataW.TrodAll enc P W' 0 sp true f.params.toList args.toList (s.fn H (ds ++ gs)).args pa)
    (hvars : ∀ sp : Nat → Bool, (∀ p ∈ before, sp p.block = true) → DataW.TrodVars enc P W' sp s.vars (s.fn H (ds ++ gs)).vars pv)
    (hk : W.keptBut W' (fun _ => False)) : s.post enc P f apart fresh handsOn false W args v W' := by
  have hold : ∀ p ∈ before, (fun b => decide (b < W.heap.size)) p.block = true := fun p hp => by simpa using hW.lt p hp
  exact ⟨ds, gs, before, [], pa, pv, hW, hres _ _ _, hargs _ hold, hvars _ hold, World.keptBut_mono (fun _ h => h.elim) hk, fun h => by cases h⟩

end Go.Tw
