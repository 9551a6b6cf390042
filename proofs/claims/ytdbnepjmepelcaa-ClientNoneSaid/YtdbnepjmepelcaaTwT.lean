/- A second machine for Go's model: statements whose order is open; code; calls. Conditions: none (definitions). -/
import Derived.Test.YtdbnepjmepelcaaTwS
namespace Go.Tw

/-! A statement whose order is open. -/
inductive Kd where
  | pure | look | make (obj : AObj) | eff

/-- What was done at one operation, in the order of the text. -/
structure Rec where
  o : Oper
  want : Bool
  T : Tmps
  h : AHeap
  v : Value
  k : Kd

def namesOf (ops : Array Oper) (o : Oper) : List Tmp :=
  tmpsOf o.op.operands.toList ++ (match o.guard with
    | some (g, _) => match ops[g]? with
      | some x => x.dst.toList
      | none => []
    | none => [])

def aKind (env : Env) (lo : Lo) (ev : Operand → Option Value) (h : AHeap) (o : Op) : Option (Kd × Value × AHeap) :=
  match isCall o with
  | some _ => match aOp env lo ev h o with
    | some (v, h') => some (.eff, v, h')
    | none => none
  | none => match aPure env.P ev o with
    | some v => some (.pure, v, h)
    | none => match aLook env.P ev h o with
      | some v => some (.look, v, h)
      | none => match aMk env.P ev o with
        | some m => match pushB h m with
          | some (v, h') => some (.make m.1, v, h')
          | none => none
        | none => match aEff env.P ev h o with
          | some (v, h') => some (.eff, v, h')
          | none => none

def aTrace (env : Env) (lo : Lo) (ops : Array Oper) : List Oper → St → Option (List Rec × St)
  | [], st => some ([], st)
  | o :: r, st => cond (match o.dst with | some d => Nat.blt d st.T.size | none => true)
    (match aWanted ops st.T o with
      | none => none
      | some false => match aTrace env lo ops r (st.put o.dst undef) with
        | some (l, s) => some ({ o := o, want := false, T := st.T, h := st.h, v := undef, k := .pure } :: l, s)
        | none => none
      | some true => match aKind env lo (evOf st.T (namesOf ops o)) st.h o.op with
        | some (k, v, h') => match aTrace env lo ops r ({ st with h := h' }.put o.dst v) with
          | some (l, s) => some ({ o := o, want := true, T := st.T, h := st.h, v := v, k := k } :: l, s)
          | none => none
        | none => none) none

/-- Which operations come ahead of each: a number's bits. -/
def befs (ops : List Oper) : List Nat :=
  ops.foldl (fun acc o => acc ++ [o.after.toList.foldl (fun s e => cond (Region.binds .any e) (s ||| 2 ^ e.on ||| acc.getD e.on 0) s) 0]) []

def edgesOk : List Oper → Nat → Bool
  | [], _ => true
  | o :: r, i => (o.after.toList.all fun e => !Region.binds .any e || Nat.blt e.on i) && edgesOk r (i + 1)

/-- Does x come surely ahead of y? -/
def bitOf (bs : List Nat) (y x : Nat) : Bool := (bs.getD y 0).testBit x

def namesOk (ops : Array Oper) (bs : List Nat) : Bool :=
  (List.range ops.size).all fun i => match ops[i]? with
    | none => true
    | some x => match x.dst with
      | none => true
      | some t => (List.range ops.size).all fun j => Nat.beq i j || match ops[j]? with
        | none => true
        | some y => !(y.dst == some t) && (!((namesOf ops y).any (Nat.beq t)) || cond (Nat.blt i j) (bitOf bs j i) (bitOf bs i j))

def drawOk (ops : Array Oper) : Bool := edgesOk ops.toList 0 && namesOk ops (befs ops.toList)

def isEff : Rec → Bool
  | { k := .eff, want := true, .. } => true
  | _ => false

def effIdx : List Rec → Nat → List Nat
  | [], _ => []
  | x :: r, i => cond (isEff x) (i :: effIdx r (i + 1)) (effIdx r (i + 1))

def chain (bs : List Nat) : List Nat → Bool
  | [] => true
  | i :: r => (r.all fun j => bitOf bs j i) && chain bs r

mutual
def vSame : Nat → Value → Value → Bool
  | 0, _, _ => false
  | _ + 1, .bool a, .bool b => a == b
  | _ + 1, .int j a, .int k b => decide (j = k) && (a == b)
  | _ + 1, .string a, .string b => strEq a b
  | _ + 1, .pointer none, .pointer none => true
  | _ + 1, .pointer (some a), .pointer (some b) => a == b
  | _ + 1, .slice none n k, .slice none m l => Nat.beq n m && Nat.beq k l
  | _ + 1, .slice (some a) n k, .slice (some b) m l => (a == b) && Nat.beq n m && Nat.beq k l
  | _ + 1, .map a, .map b => a == b
  | _ + 1, .nilFunc, .nilFunc => true
  | _ + 1, .nilIface, .nilIface => true
  | n + 1, .iface t v, .iface u w => Nat.beq t u && vSame n v w
  | n + 1, .agg x, .agg y => vSames n x.toList y.toList
  | n + 1, .tuple x, .tuple y => vSames n x.toList y.toList
  | _, _, _ => false
def vSames : Nat → List Value → List Value → Bool
  | _, [], [] => true
  | n + 1, v :: r, w :: s => vSame n v w && vSames n r s
  | _, _, _ => false
end

def heapAt (recs : List Rec) (h : AHeap) (q : Nat) : AHeap := match recs[q]? with
  | some x => x.h
  | none => h

def looksOk (P : Program) (ops : Array Oper) (bs : List Nat) (recs : List Rec) (h : AHeap) (es : List Nat) : List Rec → Nat → Bool
  | [], _ => true
  | x :: r, i => (match x.k, x.want with
      | .look, true => (es ++ [ops.size]).all fun q => (es.any fun e => Nat.blt e q && bitOf bs e i) || (es.any fun e => Nat.ble q e && bitOf bs i e) ||
          match aLook P (evOf x.T (namesOf ops x.o)) (heapAt recs h q) x.o.op with
          | some u => vSame 300 u x.v
          | none => false
      | _, _ => true) && looksOk P ops bs recs h es r (i + 1)

def aDraw (env : Env) (lo : Lo) (ops : Array Oper) (st : St) : Option St :=
  cond (drawOk ops) (match aTrace env lo ops ops.toList st with
    | some (recs, s) => cond (chain (befs ops.toList) (effIdx recs 0) && looksOk env.P ops (befs ops.toList) recs s.h (effIdx recs 0) recs 0) (some s) none
    | none => none) none

/-! Code. -/
def asJump : Code → Option AExit
  | .ret => some .ret
  | .exit id => some (.exit id)
  | .goto l => some (.goto l)
  | _ => none

/-- A loop over a function, up to its call: the function, its arguments; the loop's block. -/
def aEnterLoop (_env : Env) (fn : FuncId) (round : Option Nat) (f : Operand) (ps : Array Tmp) (assign body : Code) (st : St) : Option (FuncId × List Value × Nat × St) :=
  match aEval st.T f with
  | some (.func (.func g) first cap) => match round with
    | none => cond (Nat.blt (st.h.next + 2) lim) (
        let h1 := st.h.push (.deferred (some []))
        let h2 := h1.push (.loop .ready none fn st.T ps assign body st.h.next)
        some (g, first.toList ++ [.func (.yield h1.next) #[] #[]] ++ cap.toList, h1.next, { T := st.T, ds := { target := .collected st.h.next, args := #[] } :: st.ds, h := h2 })) none
    | some l => match st.h.get l with
      | some (.loop _ _ _ _ _ _ _ df) => cond (Nat.blt (st.h.next + 1) lim) (
          some (g, first.toList ++ [.func (.yield st.h.next) #[] #[]] ++ cap.toList, st.h.next, { st with h := st.h.push (.loop .ready none fn st.T ps assign body df) })) none
      | _ => none
  | _ => none

/-- A loop over a function, behind its call. -/
def aEndLoop (l : Nat) (st : St) : Option (AExit × St) :=
  match st.h.get l with
  | some (.loop state pend fn T ps assign body df) => match state with
    | .busy => none
    | _ => match pend with
      | none => some (.norm, { st with h := st.h.put l (.loop .exhausted pend fn T ps assign body df) })
      | some c => match asJump c with
        | some e => some (e, { st with h := st.h.put l (.loop .exhausted pend fn T ps assign body df) })
        | none => none
  | _ => none

def aCode (env : Env) (lo : Lo) (fn : FuncId) (round : Option Nat) : Nat → Code → St → Option (AExit × St)
  | 0, _, _ => none
  | n + 1, c, st => match c with
    | .skip => some (.norm, st)
    | .label _ => some (.norm, st)
    | .seq x y => match aCode env lo fn round n x st with
      | some (.norm, st') => aCode env lo fn round n y st'
      | r => r
    | .cond c x y => match aEval st.T c with
      | some (.bool b) => aCode env lo fn round n (cond b x y) st
      | _ => none
    | .block id x => match aCode env lo fn round n x st with
      | some (.exit id', st') => some (cond (Nat.beq id' id) .norm (.exit id'), st')
      | r => r
    | .loop x => match aCode env lo fn round n x st with
      | some (.norm, st') => aCode env lo fn round n (.loop x) st'
      | r => r
    | .scope x => match aCode env lo fn round n x st with
      | some (.goto l, st') => match findLabel x l with
        | some _ => none
        | none => some (.goto l, st')
      | r => r
    | .exit id => some (.exit id, st)
    | .goto l => some (.goto l, st)
    | .ret => some (.ret, st)
    | .region _ ops draw => match cond draw (aDraw env lo ops st) (aSeq env lo round.isSome ops ops.toList st) with
      | some st' => some (.norm, st')
      | none => none
    | .rangeFunc f ps assign body => match aEnterLoop env fn round f ps assign body st with
      | some (g, args, l, st1) => match lo.call g args st1.h with
        | some (_, h2) => aEndLoop l { st1 with h := h2 }
        | none => none
      | none => none
    | .refuse _ => none

/-- Temporaries with arguments ahead. -/
def Tmps.fill : Nat → List Value → Tr Value → Tr Value
  | _, [], t => t
  | i, v :: r, t => Tmps.fill (i + 1) r (Tr.setK 20 t i (some v))

def Tmps.mk' (args : List Value) (ntmps : Nat) : Tmps := { size := args.length + (ntmps - args.length), t := Tmps.fill 0 args .nil }

/-- Deferred calls. -/
def aUnwind (lo : Lo) : Nat → List Deferred → AHeap → Option AHeap
  | _, [], h => some h
  | 0, _ :: _, _ => none
  | n + 1, d :: ds, h => match d.target with
    | .fn (.func g) cap => match lo.dcall g (d.args.toList ++ cap.toList) h with
      | some h' => aUnwind lo n ds h'
      | none => none
    | .collected b => match h.get b with
      | some (.deferred (some l)) => aUnwind lo n (l ++ ds) (h.put b (.deferred none))
      | _ => none
    | _ => none

def aResult (P : Program) (T : Tmps) (h : AHeap) : List ResultVar → Option (List Value)
  | [] => some []
  | r :: rs => match (match r with
      | .tmp t => T.t.get t
      | .cell a ty => match T.t.get a with
        | some v => aLoad P h ty v
        | none => none), aResult P T h rs with
    | some v, some l => some (v :: l)
    | _, _ => none

def single (l : List Value) : Value := match l with
  | [v] => v
  | l => .tuple l.toArray

/-- How far a frame may go. -/
def codeFuel : Nat := 1000000

def aFrame (env : Env) (lo : Lo) (f : FuncId) (args : List Value) (h : AHeap) : Option (Value × AHeap) :=
  match env.P.funcs[f]? with
  | some fn => match fn.body with
    | some body =>
      cond (Nat.blt (args.length + fn.ntmps) lim) (
      match (match env.pro f with
          | some (p, rest) => match p { T := Tmps.mk' args fn.ntmps, ds := [], h := h } with
            | some st => aCode env lo f none codeFuel rest st
            | none => none
          | none => aCode env lo f none codeFuel body { T := Tmps.mk' args fn.ntmps, ds := [], h := h }) with
      | some (.norm, st) | some (.ret, st) => match aUnwind lo 1000 st.ds st.h with
        | some h' => match aResult env.P st.T h' fn.results.toList with
          | some l => some (single l, h')
          | none => none
        | none => none
      | _ => none) none
    | none => none
  | none => none

def aCall (env : Env) (lo : Lo) (f : FuncId) (args : List Value) (h : AHeap) : Option (Value × AHeap) :=
  match env.sum f with
  | some s => s args h
  | none => match env.ext f args with
    | some v => some (v, h)
    | none => aFrame env lo f args h

def aDCall (env : Env) (lo : Lo) (f : FuncId) (args : List Value) (h : AHeap) : Option AHeap :=
  match aFrame env lo f args h with
  | some (_, h') => some h'
  | none => none

def setAll : List Tmp → List Value → Tmps → Option Tmps
  | [], [], T => some T
  | p :: ps, v :: vs, T => setAll ps vs (T.set p (some v))
  | _, _, _ => none

def jumpOf : AExit → Option Code
  | .norm => none
  | .ret => some .ret
  | .exit id => some (.exit id)
  | .goto l => some (.goto l)

def aRound (env : Env) (lo : Lo) (l : Nat) (args : List Value) (h : AHeap) : Option (Value × AHeap) :=
  match h.get l with
  | some (.loop _ _ fn T ps assign body _) => match setAll ps.toList args T with
    | some T' => match aCode env lo fn (some l) codeFuel assign { T := T', ds := [], h := h } with
      | some (.norm, st1) => match st1.ds, st1.h.get l with
        | [], some (.loop .ready pend fn1 T1 ps1 as1 bd1 df1) =>
          match aCode env lo fn (some l) codeFuel body { st1 with h := st1.h.put l (.loop .busy pend fn1 T1 ps1 as1 bd1 df1) } with
          | some (e, st2) => match st2.ds, st2.h.get l with
            | [], some (.loop _ _ fn2 T2 ps2 as2 bd2 df2) => match e with
              | .norm => some (.bool true, st2.h.put l (.loop .ready none fn2 T2 ps2 as2 bd2 df2))
              | e => some (.bool false, st2.h.put l (.loop .done (jumpOf e) fn2 T2 ps2 as2 bd2 df2))
            | _, _ => none
          | none => none
        | _, _ => none
      | _ => none
    | none => none
  | _ => none

def lvl (env : Env) : Nat → Lo
  | 0 => { call := fun _ _ _ => none, dcall := fun _ _ _ => none, round := fun _ _ _ => none }
  | d + 1 => { call := aCall env (lvl env d), dcall := aDCall env (lvl env d), round := aRound env (lvl env d) }

end Go.Tw
