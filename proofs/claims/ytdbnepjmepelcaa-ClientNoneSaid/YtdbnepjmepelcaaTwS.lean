/- A second machine for Go's model: the machine. Conditions: none (definitions). -/
import Derived.Test.YtdbnepjmepelcaaTwR
namespace Go.Tw

/-- What a frame holds, and memory. -/
structure St where
  T : Tmps
  ds : List Deferred
  h : AHeap

inductive AExit where
  | norm
  | exit (id : Nat)
  | goto (l : Nat)
  | ret

/-- What calls come to. -/
structure Lo where
  call : FuncId → List Value → AHeap → Option (Value × AHeap)
  dcall : FuncId → List Value → AHeap → Option AHeap
  round : Nat → List Value → AHeap → Option (Value × AHeap)

/-- The program; what functions without a body come to; what is known of some functions besides; code that stands for code. -/
structure Env where
  P : Program
  ext : FuncId → List Value → Option Value
  sum : FuncId → Option (List Value → AHeap → Option (Value × AHeap))
  pro : FuncId → Option ((St → Option St) × Code)

def aEval (T : Tmps) (x : Operand) : Option Value := match x with
  | .tmp t => T.t.get t
  | .const v => cond (plain v) (some v) none
  | .global _ => none
  | .func f => some (.func (.func f) #[] #[])

/-- An evaluation that sees some temporaries alone. -/
def evOf (T : Tmps) (ts : List Tmp) (x : Operand) : Option Value := match x with
  | .tmp t => cond (ts.any (Nat.beq t)) (T.t.get t) none
  | x => aEval T x

def tmpsOf (xs : List Operand) : List Tmp := xs.filterMap fun | .tmp t => some t | _ => none

def St.put (st : St) (dst : Option Tmp) (v : Value) : St := match dst with
  | some d => { st with T := st.T.set d (some v) }
  | none => st

/-- Is an operation wanted? none: that is not known. -/
def aWanted (ops : Array Oper) (T : Tmps) (o : Oper) : Option Bool := match o.guard with
  | none => some true
  | some (j, want) => match ops[j]? with
    | none => some false
    | some g => match g.dst with
      | none => some false
      | some d => match T.t.get d with
        | some (.bool b) => some (b == want)
        | some (.tuple _) => some false
        | _ => none

inductive ATgt where
  | fn (f : FuncId) (args : List Value)
  | round (l : Nat) (args : List Value)

def mQ (P : Program) (t : TypeId) (name : String) : Option FuncId := match P.info? t with
  | some i => match i.methods.find? (fun m => m.name == name) with
    | some m => cond m.path.isEmpty (match m.func, P.underlying t with
      | some (f, true), some (.pointer _) => some f
      | some (_, false), some (.pointer _) => none
      | some (f, false), some _ => some f
      | _, _ => none) none
    | none => none
  | none => none

def aTarget (P : Program) (ev : Operand → Option Value) (c : Call) : Option ATgt :=
  match evList ev c.args.toList with
  | none => none
  | some args => match c.callee with
    | .builtin _ => none
    | .value f => match ev f with
      | some (.func (.func g) first cap) => some (.fn g (first.toList ++ args ++ cap.toList))
      | some (.func (.yield l) _ _) => some (.round l args)
      | _ => none
    | .invoke r name => match ev r with
      | some (.iface t v) => match mQ P t name with
        | some f => some (.fn f (v :: args))
        | none => none
      | _ => none

def pushB (h : AHeap) (m : AObj × (Nat → Value)) : Option (Value × AHeap) := cond (Nat.blt (h.next + 1) lim) (some (m.2 h.next, h.push m.1)) none

/-- An operation that is no call of a function. -/
def aSimple (P : Program) (ev : Operand → Option Value) (h : AHeap) (o : Op) : Option (Value × AHeap) :=
  match aPure P ev o with
  | some v => some (v, h)
  | none => match aLook P ev h o with
    | some v => some (v, h)
    | none => match aMk P ev o with
      | some m => pushB h m
      | none => aEff P ev h o

def isCall (o : Op) : Option Call := match o with
  | .call c => match c.callee with
    | .builtin _ => none
    | _ => some c
  | _ => none

def aOp (env : Env) (lo : Lo) (ev : Operand → Option Value) (h : AHeap) (o : Op) : Option (Value × AHeap) :=
  match isCall o with
  | some c => match aTarget env.P ev c with
    | some (.fn f args) => lo.call f args h
    | some (.round l args) => lo.round l args h
    | none => none
  | none => aSimple env.P ev h o

def aDefer (ev : Operand → Option Value) (c : Call) : Option Deferred :=
  match c.callee, evList ev c.args.toList with
  | .value f, some args => match ev f with
    | some (.func (.func g) first cap) => some { target := .fn (.func g) cap, args := (first.toList ++ args).toArray }
    | _ => none
  | _, _ => none

/-- Operations one behind the other. -/
def aSeq (env : Env) (lo : Lo) (inRound : Bool) (ops : Array Oper) : List Oper → St → Option St
  | [], st => some st
  | o :: r, st => match aWanted ops st.T o with
    | some true => match o.op with
      | .defer c => cond inRound none (match aDefer (aEval st.T) c with
        | some d => aSeq env lo inRound ops r ({ st with ds := d :: st.ds }.put o.dst undef)
        | none => none)
      | op => match aOp env lo (aEval st.T) st.h op with
        | some (v, h') => aSeq env lo inRound ops r ({ st with h := h' }.put o.dst v)
        | none => none
    | some false => aSeq env lo inRound ops r (st.put o.dst undef)
    | none => none

end Go.Tw
