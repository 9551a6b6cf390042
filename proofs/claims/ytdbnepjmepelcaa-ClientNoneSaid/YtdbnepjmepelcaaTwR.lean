/- A second machine for Go's model: single steps of the model's machine. Conditions: none. -/
import Derived.Test.YtdbnepjmepelcaaTwQ
import Derived.Calls
import Derived.Defers
namespace Go.Tw

/-- A running frame: what stays, what a frame holds, what is still to be done. -/
def fat (b : Frame) (a : Act) (todo : List Item) : Frame :=
  { fn := b.fn, tmps := a.tmps, todo := todo, defers := a.defers, mode := .run, kind := b.kind, roundOf := b.roundOf }

theorem fat_eval (b : Frame) (a : Act) (todo : List Item) (x : Operand) : (fat b a todo).eval x = a.eval x := by cases x <;> rfl

theorem fat_eval' (b : Frame) (a : Act) (todo : List Item) : (fat b a todo).eval = a.eval := funext (fat_eval b a todo)

section moves
variable {P : Program} {b : Frame} {a : Act} {k : List Item} {cs : List Frame} {w : World}

theorem fs_skip : step P (lone (fat b a (.code .skip :: k)) cs w) = .next (lone (fat b a k) cs w) :=
  step_lone_go (by simp [stepG, stepG.exec, fat])

theorem fs_label {l : Nat} : step P (lone (fat b a (.code (.label l) :: k)) cs w) = .next (lone (fat b a k) cs w) :=
  step_lone_go (by simp [stepG, stepG.exec, fat])

theorem fs_inBlock {id : Nat} : step P (lone (fat b a (.inBlock id :: k)) cs w) = .next (lone (fat b a k) cs w) :=
  step_lone_go (by simp [stepG, stepG.exec, fat])

theorem fs_inScope {c : Code} : step P (lone (fat b a (.inScope c :: k)) cs w) = .next (lone (fat b a k) cs w) :=
  step_lone_go (by simp [stepG, stepG.exec, fat])

theorem fs_seq {x y : Code} : step P (lone (fat b a (.code (.seq x y) :: k)) cs w) = .next (lone (fat b a (.code x :: .code y :: k)) cs w) :=
  step_lone_go (by simp [stepG, stepG.exec, fat])

theorem fs_cond {c : Operand} {x y : Code} {t : Bool} (h : a.eval c = .bool t) :
    step P (lone (fat b a (.code (.cond c x y) :: k)) cs w) = .next (lone (fat b a (.code (if t then x else y) :: k)) cs w) :=
  step_lone_go (by
    have := fat_eval b a (.code (.cond c x y) :: k) c
    simp only [fat] at this
    simp [stepG, stepG.exec, fat, this, h])

theorem fs_block {id : Nat} {c : Code} : step P (lone (fat b a (.code (.block id c) :: k)) cs w) = .next (lone (fat b a (.code c :: .inBlock id :: k)) cs w) :=
  step_lone_go (by simp [stepG, stepG.exec, fat])

theorem fs_scope {c : Code} : step P (lone (fat b a (.code (.scope c) :: k)) cs w) = .next (lone (fat b a (.code c :: .inScope c :: k)) cs w) :=
  step_lone_go (by simp [stepG, stepG.exec, fat])

theorem fs_loop {c : Code} : step P (lone (fat b a (.code (.loop c) :: k)) cs w) = .next (lone (fat b a (.code c :: .inLoop c :: k)) cs w) :=
  step_lone_go (by simp [stepG, stepG.exec, fat])

theorem fs_inLoop {c : Code} : step P (lone (fat b a (.inLoop c :: k)) cs w) = .next (lone (fat b a (.code c :: .inLoop c :: k)) cs w) :=
  step_lone_go (by simp [stepG, stepG.exec, fat])

theorem fs_exit {id : Nat} {k' : List Item} (h : exitTo id k = some k') : step P (lone (fat b a (.code (.exit id) :: k)) cs w) = .next (lone (fat b a k') cs w) :=
  step_lone_go (by simp [stepG, stepG.exec, fat, h])

theorem fs_goto {l : Nat} {k' : List Item} (h : gotoIn l k = some k') : step P (lone (fat b a (.code (.goto l) :: k)) cs w) = .next (lone (fat b a k') cs w) :=
  step_lone_go (by simp [stepG, stepG.exec, fat, h])

theorem fs_ret (hr : b.roundOf = none) : step P (lone (fat b a (.code .ret :: k)) cs w) = .next (lone { fat b a (.code .ret :: k) with mode := .returning } cs w) :=
  step_lone_go (by simp [stepG, stepG.exec, fat, hr])

theorem fs_end (hr : b.roundOf = none) : step P (lone (fat b a []) cs w) = .next (lone { fat b a [] with mode := .returning } cs w) :=
  step_lone_go (by simp [stepG, stepG.exec, fat, hr])

theorem fs_region {id : Nat} {ops : Array Oper} :
    step P (lone (fat b a (.code (.region id ops false) :: k)) cs w) = .next (lone (fat b a (.inRegion ops (List.range ops.size) :: k)) cs w) :=
  step_lone_go (by simp [stepG, stepG.exec, fat])

theorem fs_draw {id : Nat} {ops : Array Oper} :
    step P (lone (fat b a (.code (.region id ops true) :: k)) cs w) =
      .next (lone (fat b a (.inRegion ops (Region.schedule (P.follows .mixedOrders) ops (w.tape w.drawn (.order b.fn id))) :: k)) cs { w with drawn := w.drawn + 1 }) :=
  step_lone_go (by simp [stepG, stepG.exec, fat, choose, Sem.run, Question.forced, Question.cut])

theorem fs_regionEnd {ops : Array Oper} : step P (lone (fat b a (.inRegion ops [] :: k)) cs w) = .next (lone (fat b a k) cs w) :=
  step_lone_go (by simp [stepG, stepG.exec, fat])

theorem fat_finish (b : Frame) (a : Act) (ops : Array Oper) (i : Nat) (rest : List Nat) (k : List Item) (v : Value) :
    (fat b a (.inRegion ops (i :: rest) :: k)).finish v = fat b (a.put ((ops[i]?).bind (·.dst)) v) (.inRegion ops rest :: k) := by
  cases h : (ops[i]?).bind (·.dst) <;> simp [Frame.finish, fat, Act.put, h]

theorem fs_opSkip {ops : Array Oper} {i : Nat} {rest : List Nat} (h : ((ops[i]?).map (Region.wanted · (yielded ops a.tmps))).getD false = false) :
    step P (lone (fat b a (.inRegion ops (i :: rest) :: k)) cs w) = .next (lone (fat b (a.put ((ops[i]?).bind (·.dst)) undef) (.inRegion ops rest :: k)) cs w) := by
  rw [← fat_finish]
  exact step_lone_go (by
    have h' := h
    simp only [fat] at *
    simp [stepG, stepG.exec, h'])

/-- An operation is begun: but for a 'defer' inside a round. -/
theorem stepG_fat {ops : Array Oper} {i : Nat} {rest : List Nat} {o : Oper} (ho : ops[i]? = some o) (hw : Region.wanted o (yielded ops a.tmps) = true)
    (hd : b.roundOf = none ∨ ∀ c, o.op ≠ .defer c) :
    stepG P true { frame := fat b a (.inRegion ops (i :: rest) :: k), callers := cs, status := .running, dying := none } w =
      stepG.apply P true (fat b a (.inRegion ops (i :: rest) :: k)) cs none (execOp a.eval o) w := by
  have he := fat_eval' b a (.inRegion ops (i :: rest) :: k)
  simp only [fat] at he
  simp only [stepG, stepG.exec, fat, ho, hw, Option.map_some, Option.getD_some, if_true, stepG.oper, Frame.oper?, he]
  rcases hd with hd | hd
  · rw [hd]
  · cases hr : b.roundOf with
    | none => rfl
    | some l =>
      cases hop : o.op <;> first | rfl | exact absurd hop (hd _)

theorem fs_value {ops : Array Oper} {i : Nat} {rest : List Nat} {o : Oper} {v : Value} {w' : World} (ho : ops[i]? = some o) (hw : Region.wanted o (yielded ops a.tmps) = true)
    (hd : b.roundOf = none ∨ ∀ c, o.op ≠ .defer c) (hr : (execOp a.eval o).run P w = .ok (.value v) w') :
    step P (lone (fat b a (.inRegion ops (i :: rest) :: k)) cs w) = .next (lone (fat b (a.put o.dst v) (.inRegion ops rest :: k)) cs w') := by
  have hg := stepG_fat (P := P) (b := b) (k := k) (cs := cs) (w := w) (rest := rest) ho hw hd
  have hf := fat_finish b a ops i rest k v
  rw [ho] at hf
  simp only [Option.bind_some] at hf
  rw [← hf]
  refine step_lone_go ?_
  rw [hg]
  simp [stepG.apply, hr]

theorem fs_skipped {ops : Array Oper} {i : Nat} {rest : List Nat} {o : Oper} {w' : World} (ho : ops[i]? = some o) (hw : Region.wanted o (yielded ops a.tmps) = true)
    (hd : b.roundOf = none ∨ ∀ c, o.op ≠ .defer c) (hr : (execOp a.eval o).run P w = .ok .skip w') :
    step P (lone (fat b a (.inRegion ops (i :: rest) :: k)) cs w) = .next (lone (fat b (a.put o.dst undef) (.inRegion ops rest :: k)) cs w') := by
  have hg := stepG_fat (P := P) (b := b) (k := k) (cs := cs) (w := w) (rest := rest) ho hw hd
  have hf := fat_finish b a ops i rest k undef
  rw [ho] at hf
  simp only [Option.bind_some] at hf
  rw [← hf]
  refine step_lone_go ?_
  rw [hg]
  simp [stepG.apply, hr]

theorem fs_defer {ops : Array Oper} {i : Nat} {rest : List Nat} {o : Oper} {d : Deferred} {w' : World} (ho : ops[i]? = some o) (hw : Region.wanted o (yielded ops a.tmps) = true)
    (hd : b.roundOf = none) (hr : (execOp a.eval o).run P w = .ok (.defer d) w') :
    step P (lone (fat b a (.inRegion ops (i :: rest) :: k)) cs w) = .next (lone (fat b ({ a with defers := d :: a.defers }.put o.dst undef) (.inRegion ops rest :: k)) cs w') := by
  have hg := stepG_fat (P := P) (b := b) (k := k) (cs := cs) (w := w) (rest := rest) ho hw (.inl hd)
  have hf := fat_finish b { a with defers := d :: a.defers } ops i rest k undef
  rw [ho] at hf
  simp only [Option.bind_some] at hf
  rw [← hf]
  refine step_lone_go ?_
  rw [hg]
  simp [stepG.apply, hr]
  rfl

theorem fs_enter {ops : Array Oper} {i : Nat} {rest : List Nat} {o : Oper} {f : FuncId} {args : Array Value} {w' : World} (ho : ops[i]? = some o) (hw : Region.wanted o (yielded ops a.tmps) = true)
    (hd : b.roundOf = none ∨ ∀ c, o.op ≠ .defer c) (hr : (execOp a.eval o).run P w = .ok (.enter f args) w') :
    step P (lone (fat b a (.inRegion ops (i :: rest) :: k)) cs w) = .next (lone (Frame.enter P f args .normal) (fat b a (.inRegion ops (i :: rest) :: k) :: cs) w') := by
  have hg := stepG_fat (P := P) (b := b) (k := k) (cs := cs) (w := w) (rest := rest) ho hw hd
  refine step_lone_go ?_
  rw [hg]
  simp [stepG.apply, hr, fat]

theorem fs_round {ops : Array Oper} {i : Nat} {rest : List Nat} {o : Oper} {l : Nat} {f : FuncId} {tmps : Array Value} {assign body : Code} {w' : World} (ho : ops[i]? = some o)
    (hw : Region.wanted o (yielded ops a.tmps) = true) (hd : b.roundOf = none ∨ ∀ c, o.op ≠ .defer c) (hr : (execOp a.eval o).run P w = .ok (.round l f tmps assign body) w') :
    step P (lone (fat b a (.inRegion ops (i :: rest) :: k)) cs w) = .next (lone (Frame.round l f tmps assign body .normal) (fat b a (.inRegion ops (i :: rest) :: k) :: cs) w') := by
  have hg := stepG_fat (P := P) (b := b) (k := k) (cs := cs) (w := w) (rest := rest) ho hw hd
  refine step_lone_go ?_
  rw [hg]
  simp [stepG.apply, hr]

end moves

/-- A frame that gives back a value. -/
def Gives (P : Program) (fr : Frame) (kind : CallKind) (w : World) (v : Value) : Prop :=
  fr.mode = .returning ∧ fr.defers = [] ∧ fr.kind = kind ∧ ∃ fn, P.funcs[fr.fn]? = some fn ∧ (results fn fr.tmps).run P w = .ok v w

theorem fs_back {P : Program} {fr c : Frame} {cs : List Frame} {w : World} {v : Value} (h : Gives P fr .normal w v) : step P (lone fr (c :: cs) w) = .next (lone (c.finish v) cs w) := by
  obtain ⟨hm, hd, hk, fn, hf, hr⟩ := h
  exact step_lone_go (by simp [stepG, unwind, doReturn, hm, hd, hk, hf, hr])

theorem fs_backD {P : Program} {fr c : Frame} {cs : List Frame} {w : World} {v : Value} (h : Gives P fr .deferred w v) (hc : c.mode = .returning) : step P (lone fr (c :: cs) w) = .next (lone c cs w) := by
  obtain ⟨hm, hd, hk, fn, hf, hr⟩ := h
  exact step_lone_go (by simp [stepG, unwind, doReturn, hm, hd, hk, hf, hr, hc])

end Go.Tw
