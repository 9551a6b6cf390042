/- ClientNone returns true at every input; conditions: none. -/
import Derived.Test.YtdbnepjmepelcaaRows
import Derived.WalkKit
import Derived.ProofKit
import Derived.OpenShut
import Derived.ShutString
import Derived.Test.YtdbnepjmepelcaaTwDE
namespace Go.Proofs.Ytdbnepjmepelcaa.clientNone
open Go.ChangeShapes Go.WideShapes Go.ChangeAt Go.RowKit
open Go.ChangeMaps (open_string shut_string)
open Go.Tw

theorem own : ownKnob Try.prog.godebug = none := by kernel_rfl

/-! ### The second machine runs it. -/
noncomputable def env : Env := { P := Try.prog, ext := fun _ _ => none, sum := fun _ => none, pro := fun _ => none }

theorem names : (Try.prog.funcs.toList.all fun fn => fn.body.isNone || !(fn.name == "runtime.NumGoroutine")) = true := by kernel_rfl
theorem mixed : Try.prog.follows .mixedOrders = true := by kernel_rfl

theorem envOk : EnvAll env :=
  { names := fun f fn body => names_of names f fn body
    mixed := mixed
    sum := fun _ _ h => nomatch h
    ext := fun _ _ _ h => nomatch h
    pro := fun _ _ _ h => nomatch h }

noncomputable def lo : Lo := lvl env 11

noncomputable def body : Code := match Try.prog.funcs[5]? with
  | some fn => fn.body.getD .skip
  | none => .skip

noncomputable def st0 (a0 : Int) (a1 : ByteArray) : St := { T := Tmps.mk' [.int .i64 a0, .string a1] 104, ds := [], h := ⟨.nil, 0⟩ }
noncomputable def run (n : Nat) (c : Code) (st : St) : Option (AExit × St) := aCode env lo 5 none n c st
noncomputable def cA : Code := seqL body
noncomputable def cB : Code := seqL (seqR body)
noncomputable def cC : Code := seqL (seqL (seqR (seqR body)))
noncomputable def cIf : Code := seqR (seqL (seqR (seqR body)))
noncomputable def cRest : Code := seqR (seqR (seqR body))
noncomputable def thn : Code := match cIf with
  | .cond _ x _ => x
  | c => c
noncomputable def els : Code := match cIf with
  | .cond _ _ y => y
  | c => c

theorem body_eq : body = .seq cA (.seq cB (.seq (.seq cC (.cond (.tmp 19) thn els)) cRest)) := by kernel_rfl

noncomputable def st1 (a0 : Int) (a1 : ByteArray) : St := stOf (st0 a0 a1) (run 999999 cA (st0 a0 a1))
noncomputable def st2 (a0 : Int) (a1 : ByteArray) : St := stOf (st0 a0 a1) (run 999998 cB (st1 a0 a1))
noncomputable def st3 (a0 : Int) (a1 : ByteArray) : St := stOf (st0 a0 a1) (run 999996 cC (st2 a0 a1))

theorem n1 (a0 : Int) (a1 : ByteArray) : isNorm (run 999999 cA (st0 a0 a1)) = true := by kernel_rfl
theorem n2 (a0 : Int) (a1 : ByteArray) : isNorm (run 999998 cB (st1 a0 a1)) = true := by kernel_rfl
theorem n3 (a0 : Int) (a1 : ByteArray) : isNorm (run 999996 cC (st2 a0 a1)) = true := by kernel_rfl
theorem b19 (a0 : Int) (a1 : ByteArray) : isBool (st3 a0 a1).T 19 = true := by kernel_rfl

noncomputable def fin (r : Option (AExit × St)) : Option (Value × AHeap) := finish Try.prog lo Try.f5 r

theorem long (a0 : Int) (a1 : ByteArray) : isTrue (fin (run 999995 thn (st3 a0 a1))) = true := by kernel_rfl
theorem notJump (a0 : Int) (a1 : ByteArray) : isNorm (run 999995 thn (st3 a0 a1)) = false := by kernel_rfl
theorem shortN (a0 : Int) (a1 : ByteArray) : isNorm (run 999995 els (st3 a0 a1)) = true := by kernel_rfl
noncomputable def st4 (a0 : Int) (a1 : ByteArray) : St := stOf (st0 a0 a1) (run 999995 els (st3 a0 a1))
theorem short (a0 : Int) (a1 : ByteArray) : isTrue (fin (run 999997 cRest (st4 a0 a1))) = true := by kernel_rfl

theorem two_way {env : Env} {lo : Lo} {f : FuncId} {n t : Nat} {cA cB cC thn els rest : Code} {s0 s1 s2 s3 s4 : St} (K : Option (AExit × St) → Bool)
    (h1 : aCode env lo f none (n + 5) cA s0 = some (.norm, s1)) (h2 : aCode env lo f none (n + 4) cB s1 = some (.norm, s2)) (h3 : aCode env lo f none (n + 2) cC s2 = some (.norm, s3))
    (hb : aEval s3.T (.tmp t) = some (.bool (boolAt s3.T t))) (hl : K (aCode env lo f none (n + 1) thn s3) = true) (hn : isNorm (aCode env lo f none (n + 1) thn s3) = false)
    (he : aCode env lo f none (n + 1) els s3 = some (.norm, s4)) (hr : K (aCode env lo f none (n + 3) rest s4) = true) :
    K (aCode env lo f none (n + 6) (.seq cA (.seq cB (.seq (.seq cC (.cond (.tmp t) thn els)) rest))) s0) = true := by
  rw [seq_step h1, seq_step h2, seq_cases, seq_step h3, cond_step hb]
  cases boolAt s3.T t with
  | true =>
    simp only [cond_true]
    generalize aCode env lo f none (n + 1) thn s3 = r at hl hn ⊢
    split
    · simp [isNorm] at hn
    · exact hl
  | false =>
    simp only [cond_false, he]
    exact hr

theorem ran (a0 : Int) (a1 : ByteArray) : isTrue (fin (run 1000000 body (st0 a0 a1))) = true :=
  (congrArg (fun c => isTrue (fin (run 1000000 c (st0 a0 a1)))) body_eq).trans
    (two_way (n := 999994) (s1 := st1 a0 a1) (s2 := st2 a0 a1) (s3 := st3 a0 a1) (s4 := st4 a0 a1) (fun r => isTrue (fin r)) (norm_of (st0 a0 a1) (n1 a0 a1)) (norm_of (st0 a0 a1) (n2 a0 a1)) (norm_of (st0 a0 a1) (n3 a0 a1)) (bool_of (b19 a0 a1))
      (long a0 a1) (notJump a0 a1) (norm_of (st0 a0 a1) (shortN a0 a1)) (short a0 a1))

theorem fn5 : env.P.funcs[5]? = some Try.f5 := Try.func5
theorem body5 : Try.f5.body = some body := by kernel_rfl

theorem walk (a0 : Int) (a1 : ByteArray) (w : World) :
    Calls Try.prog 5 #[.int .i64 a0, .string a1] w fun e w' => e = .returned (.bool true) ∧ w.keptBut w' (fun _ => False) := by
  obtain ⟨h', hh⟩ := true_of (ran a0 a1)
  have e : aFrame env (lvl env 11) 5 [.int .i64 a0, .string a1] ⟨.nil, 0⟩ = some (.bool true, h') :=
    aFrame_of fn5 body5 rfl (by kernel_rfl) hh
  refine calls_empty envOk e rfl ⟨rfl, fun i u u' h1 h2 => ?_⟩ w
  match i with
  | 0 => simp at h1 h2; subst h1; subst h2; exact .int _ _
  | 1 => simp at h1 h2; subst h1; subst h2; exact .string _
  | i + 2 => simp at h1

/-! ### The row. -/
set_option maxRecDepth 100000 in
theorem lifted (os : Os) (started : os.Started) (H : Type) (enc : TypeId × Value → H) :
    ReturnsInHanded {} Try.checked os 5 .any (Rows.clientNoneSpec.pre6 enc Try.prog Try.f5 Rows.clientNoneRow.domain false) (Rows.clientNoneSpec.post enc Try.prog Try.f5 false true false false) := by
  refine returnsInHanded_of_change (C := Try.checked) own started (by kernel_rfl) Try.func5
    (ChangeSpec.witness6 (enc := enc) (C := Try.checked) false ⟨#[], #[.int .i64 0, .string ByteArray.empty], []⟩ 8 (by kernel_rfl) (by kernel_rfl) (by kernel_rfl) (by kernel_rfl)) ?_
  intro W base args ds gs before hval0 hW hcnd _
  have hval : ∀ (j : Nat) t v, Try.f5.params[j]? = some t → args[j]? = some v → Value.okWide Try.prog W .any base t v := hval0
  have hW' := hW
  obtain ⟨p, q, hA0, hV, rfl, hfz, hnd⟩ := hW
  have hA : DataW.TrodAll enc Try.prog W 0 (fun _ => true) true Try.f5.params.toList args.toList ds p := hA0
  rw [Try.params5] at hA hval
  obtain ⟨v0, vs0, d0, ds0, p0, q0, hargs, rfl, rfl, h0, r0⟩ := trodAll_cons hA
  obtain ⟨v1, vs1, d1, ds1, p1, q1, rfl, rfl, rfl, h1, r1⟩ := trodAll_cons r0
  obtain ⟨rfl, rfl, rfl⟩ := trodAll_nil r1
  obtain rfl : args = #[v0, v1] := by cases args; simp_all
  obtain ⟨rfl, rfl⟩ := trodVars_none hV
  obtain ⟨a0, rfl, rfl, rfl, w0⟩ := open_int Try.underlying3 (hval 0 3 v0 rfl rfl) h0
  obtain ⟨a1, rfl, rfl, rfl, w1⟩ := open_string Try.underlying9 (hval 1 9 v1 rfl rfl) h1
  clear hA0 hval0
  simp only [List.append_nil] at hW'
  refine (walk a0 a1 W).mono fun e W' ⟨he, hg⟩ => ?_
  subst he
  exact ⟨_, rfl, post_kept (pa := []) (pv := []) hW' (fun _ _ _ => (trodAll_cons_mk (shut_bool Try.underlying4 _) trodAll_mk0)) (fun sp _ => (trodAll_cons_mk (shut_int Try.underlying3 w0) (trodAll_cons_mk (shut_string Try.underlying9 w1) trodAll_mk0))) (fun _ _ => rfl) hg⟩

theorem over : Rows.clientNoneRow.holds Try.pinned (OpenSpec.ofChange Rows.clientNoneSpec) :=
  OpenClaim.holds_of_wide 5 Try.f5 rfl rfl rfl rfl rfl rfl rfl ⟨rfl, rfl, rfl, rfl, rfl⟩ rfl rfl rfl rfl rfl (by kernel_rfl) Try.func5 (by kernel_rfl)
    (of_decide_eq_true (by kernel_rfl)) (by unfold Func.isWrapper; first | (rw [if_pos (by decide +kernel)]; kernel_rfl) | (rw [if_neg (by decide +kernel)]; exact ⟨rfl, rfl⟩))
    (fun os started H enc _ => lifted os started H enc)

/-- The statement. -/
theorem proved : Rows.ClientNoneSaid :=
  over
#print axioms proved
end Go.Proofs.Ytdbnepjmepelcaa.clientNone
