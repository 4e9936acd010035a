/- The evaluator's tables: how they are made of a program, and the looks at the regions that draw their order. -/
import Derived.Test.YtdhljfjmalphiaaDoorAiCore
namespace Go.Ai

def fieldsK (P : Program) : List Field → Option (List (Nat × Nat × Nat × Bool))
  | [] => some []
  | f :: l => match P.info? f.type with
    | none => none
    | some i => match fieldsK P l with
      | none => none
      | some r => some ((f.offset, f.type, i.size, f.name == "_") :: r)
def kOf (P : Program) : TypeDesc → K
  | .bool => .bool
  | .int k => .int k
  | .string => .str
  | .pointer e => .ptr e
  | .slice e => .slice e
  | .array n e => .arr n e
  | .map k e => .map k e
  | .struct fs => match fieldsK P fs.toList with
    | some l => .struct l
    | none => .other
  | .interface _ => .ifc
  | .func .. => .func
  | .unsafePointer => .usp
  | _ => .other
def aggD : TypeDesc → Bool
  | .struct _ | .array .. => true
  | _ => false
def mkTI (P : Program) (t : Nat) (cmp : Bool) : Option TI :=
  match P.info? t with
  | none => none
  | some i => match P.underlying t with
    | none => none
    | some d => match i.zero with
      | none => none
      | some z => match toV z with
        | none => none
        | some v => match Nat.beq v.cells.length i.size with
         | false => none
         | true => match cmp with
          | false => some { k := kOf P d, size := i.size, bytes := i.bytes, zv := v, cmp := false, agg := aggD d }
          | true => cond (!P.stoodInHeld t && !P.eqGuardType P.depth t) (some { k := kOf P d, size := i.size, bytes := i.bytes, zv := v, cmp := true, agg := aggD d }) none

def tmpsOf : List Operand → List Nat
  | [] => []
  | .tmp t :: l => t :: tmpsOf l
  | _ :: l => tmpsOf l
/-- The temporaries that an operation looks at, its guard's with them. -/
def looks (ops : List Oper) (o : Oper) : List Nat :=
  match o.guard with
  | some (g, _) => match (nth ops g).bind (·.dst) with
    | some t => t :: tmpsOf o.op.operands.toList
    | none => tmpsOf o.op.operands.toList
  | none => tmpsOf o.op.operands.toList
def has (t : Nat) : List Nat → Bool
  | [] => false
  | a :: l => Nat.beq a t || has t l
/-- The direct edges of an operation that bind in every order. -/
def edgesOf : List Edge → List Nat
  | [] => []
  | e :: l => match e.ground with
    | .textOnly _ | .gcOnly _ => edgesOf l
    | _ => e.on :: edgesOf l
def bit (m i : Nat) : Bool := Nat.beq ((m >>> i) % 2) 1
def orBits : List Nat → List Nat → Nat
  | [], _ => 0
  | e :: l, ms => (1 <<< e) ||| (nth ms e).getD 0 ||| orBits l ms
/-- Of each operation: on which it hangs, directly or through others (edges that go back alone). -/
def masks : List Oper → List Nat → List Nat
  | [], ms => ms
  | o :: l, ms => masks l (ms ++ [orBits (edgesOf o.after.toList) ms])

def apartT (ops : List Oper) (x y : Oper) : Bool :=
  (match x.dst with
   | some d => !has d (looks ops y) && (match y.dst with | some e => !Nat.beq d e | none => true)
   | none => true) &&
  (match y.dst with
   | some d => !has d (looks ops x)
   | none => true)
/-- May `y` (number j, later in the canonical order) come ahead of `x` (number i), which it does not hang on? -/
def pairOk (c : Ctx) (ops : List Oper) (ri : RI) (i : Nat) (x : Oper) (j : Nat) (y : Oper) : Bool :=
  apartT ops x y &&
  (match clsOf c x.op, clsOf c y.op with
   | .eff, .eff => false
   | .alloc, .eff => false
   | .pure, .eff => memFree c x.op || has i ((nth ri.post j).getD [])
   | .eff, .pure => memFree c y.op || has i ((nth ri.pre j).getD [])
   | _, _ => true)
def aheadOk (c : Ctx) (ops : List Oper) (ri : RI) (m : Nat) (j : Nat) (y : Oper) : List Nat → Bool
  | [] => true
  | i :: l => (match nth ops i with
    | some x => bit m i || pairOk c ops ri i x j y
    | none => false) && aheadOk c ops ri m j y l
def allIn (seen : Nat) : List Nat → Bool
  | [] => true
  | e :: l => bit seen e && allIn seen l
def ordOk (c : Ctx) (ops : List Oper) (ms : List Nat) (ri : RI) : List Nat → List Nat → Nat → Bool
  | [], _, seen => allIn seen (List.range ops.length)
  | j :: l, done, seen => match nth ops j, nth ms j with
    | some y, some m => !bit seen j && allIn seen (edgesOf y.after.toList) && aheadOk c ops ri m j y done &&
        ordOk c ops ms ri l (j :: done) (seen ||| (1 <<< j))
    | _, _ => false
def riOk (c : Ctx) (ops : List Oper) (ri : RI) : Bool :=
  ordOk c ops (masks ops []) ri ri.ord [] 0
def codeOk (c : Ctx) (fid : Nat) : Code → Bool
  | .region id ops draw => match draw with
    | false => true
    | true => match c.ri fid id with
      | some ri => riOk c ops.toList ri
      | none => true
  | .seq a b => codeOk c fid a && codeOk c fid b
  | .cond _ a b => codeOk c fid a && codeOk c fid b
  | .block _ b => codeOk c fid b
  | .loop b => codeOk c fid b
  | .scope b => codeOk c fid b
  | _ => true
end Go.Ai
