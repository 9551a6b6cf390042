/- A second machine for Go's model: the operations that read no memory, together. Conditions: none. -/
import Derived.Test.YtdbnepjmepelcaaTwE
namespace Go.Tw

theorem eqGuard_pure {op : BinOp} {t : TypeId} {x y : Operand} {a b : Value} (h1 : a ≠ .nilIface) (h2 : ∀ cs, a ≠ .agg cs) : eqGuard op t x y a b = pure () := by
  cases a <;> first | exact absurd rfl h1 | exact absurd rfl (h2 _) | (cases op <;> rfl)

theorem eqGuard_agg {P : Program} {op : BinOp} {t : TypeId} {x y : Operand} {a b : Array Value} (h : P.eqGuardType P.depth t = false) (w : World) :
    (eqGuard op t x y (.agg a) (.agg b)).run P w = .ok () w := by
  cases op <;> first | rfl | simp [eqGuard, h]

theorem aStr_plain {op : BinOp} {a b : ByteArray} {v : Value} (h : aStr op a b = some v) : plain v = true := by
  cases op <;> simp only [aStr] at h
  case add =>
    cases hb : Nat.ble (strLen a + strLen b) 9223372036854775807 <;> simp only [hb, cond_true, cond_false] at h
    · cases h
    · cases h; rfl
  all_goals cases h <;> rfl

theorem aBin_sound {P : Program} {ρ : Inj} {op : BinOp} {t : TypeId} {xo yo : Operand} {x y x' y' v : Value} (h : aBin P op t xo yo x y = some v)
    (rx : VRel ρ x x') (ry : VRel ρ y y') (w : World) :
    ∃ v', ((do eqGuard op t xo yo x' y'; binOp op t x' y' : Sem Value)).run P w = .ok v' w ∧ VRel ρ v v' := by
  unfold aBin at h
  split at h
  · rename_i k a k' b
    cases rx; cases ry
    split at h
    · refine ⟨v, ?_, ?_⟩
      · rw [eqGuard_pure (by simp) (by simp)]
        simp only [pure_bind]
        show (Op.shift .shl k a k' b).run P w = _
        rw [aShift_sound h]; rfl
      · unfold aShift at h
        repeat' split at h
        all_goals cases h <;> exact .int _ _
    · refine ⟨v, ?_, ?_⟩
      · rw [eqGuard_pure (by simp) (by simp)]
        simp only [pure_bind]
        show (Op.shift .shr k a k' b).run P w = _
        rw [aShift_sound h]; rfl
      · unfold aShift at h
        repeat' split at h
        all_goals cases h <;> exact .int _ _
    · rename_i hl hr
      by_cases e : k = k'
      · subst e
        simp only [decide_true, cond_true] at h
        have hs : isShift op = false := by cases op <;> simp [isShift] at * <;> simp_all
        refine ⟨v, ?_, ?_⟩
        · rw [eqGuard_pure (by simp) (by simp)]
          simp only [pure_bind]
          rw [aInt_sound hs h]; rfl
        · have hp : plain v = true := by
            unfold aInt at h
            repeat' split at h
            all_goals cases h <;> rfl
          exact plain_rel ρ hp
      · simp [e] at h
  · cases rx; cases ry
    refine ⟨v, ?_, ?_⟩
    · rw [eqGuard_pure (by simp) (by simp)]
      simp only [pure_bind]
      rw [aStr_sound h]; rfl
    · exact plain_rel ρ (aStr_plain h)
  · cases hc : isConst xo || isConst yo with
    | false => simp [hc] at h
    | true =>
      simp only [hc, cond_true] at h
      cases rx; cases ry
      obtain ⟨h1, b, rfl⟩ := eq_case (ρ := ρ) (w := w) h (by simp) (by simp) (by simp) (by simp) (.nilIface) (.nilIface)
      refine ⟨_, ?_, .bool b⟩
      have hg : eqGuard op t xo yo .nilIface .nilIface = pure () := by
        cases xo with
        | const c => exact eqGuard_nil_constL _ _ _ _
        | _ => cases yo with
          | const c => exact eqGuard_nil_constR _ _ _ _
          | _ => simp [isConst] at hc
      rw [hg]
      simp only [pure_bind]
      exact h1
  · cases hg : P.eqGuardType P.depth t with
    | true => simp [hg] at h
    | false =>
      simp only [hg, cond_false] at h
      cases rx with
      | agg _ x' hx hrx =>
      cases ry with
      | agg _ y' hy hry =>
      obtain ⟨h1, b, rfl⟩ := eq_case (w := w) h (by simp) (by simp) (by simp) (by simp) (.agg _ _ hx hrx) (.agg _ _ hy hry)
      exact ⟨_, by simp only [Sem.run_bind, eqGuard_agg hg, Result.andThen_ok]; exact h1, .bool b⟩
  · cases h
  · cases h
  · cases h
  · cases h
  · cases h
  · rename_i n1 n2 n3 n4 n5 n6 n7 n8 n9
    have c1 : ∀ k n, x' ≠ .int k n := fun k n e => by subst e; cases rx; exact n1 _ _ rfl
    have c2 : ∀ a, x' ≠ .string a := fun a e => by subst e; cases rx; exact n2 _ rfl
    have c3 : ∀ k n, x' ≠ .float k n := fun k n e => by subst e; cases rx; exact n3 _ _ rfl
    have c4 : ∀ k n m, x' ≠ .complex k n m := fun k n m e => by subst e; cases rx; exact n4 _ _ _ rfl
    obtain ⟨h1, b, rfl⟩ := eq_case (w := w) h c1 c3 c4 c2 rx ry
    refine ⟨_, ?_, .bool b⟩
    have hg : eqGuard op t xo yo x' y' = pure () := by
      by_cases e1 : x' = .nilIface
      · subst e1
        cases rx
        cases ry <;> first | exact (n7 rfl rfl).elim | exact eqGuard_nil_iface _ _ | (cases op <;> rfl)
      · by_cases e2 : ∃ cs, x' = .agg cs
        · obtain ⟨cs, rfl⟩ := e2
          cases rx
          cases ry <;> first | exact (n8 _ _ rfl rfl).elim | (cases op <;> rfl)
        · exact eqGuard_pure e1 (fun cs e => e2 ⟨cs, e⟩)
    rw [hg]
    simp only [pure_bind]
    exact h1

end Go.Tw
