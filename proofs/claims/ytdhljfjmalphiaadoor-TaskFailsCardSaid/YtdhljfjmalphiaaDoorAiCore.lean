/- A small evaluator of the model's code over an abstract heap: definitions alone. -/
import Derived.Orders
import Derived.LoopN
import Derived.Scope
namespace Go.Ai

/-- Abstract values: a block's number is the evaluator's own. `sl b o len cap esz ex`: `cap` is what is known of the capacity; `ex`: it is just that. -/
inductive V where
  | bool (b : Bool)
  | int (k : IntKind) (n : Int)
  | str (s : List Nat)
  | ptr (b o : Nat)
  | nil
  | sl (b o len cap esz : Nat) (ex : Bool)
  | nilsl
  | mp (b : Nat)
  | nilmp
  | fn (f : Nat) (cs : List V)
  | nilfn
  | agg (cs : List V)
  | tup (vs : List V)
  | ifc (t : Nat) (v : V)
  | nilifc
  | sint (k : IntKind) (i : Nat)      -- a number that is not known, by its name
  | sstr (i : Nat)                    -- a string that is not known
  deriving Inhabited

abbrev V.undef : V := .tup []
def byteV (n : Nat) : V := .int .u8 (.ofNat n)

def V.cells : V → List V
  | .agg cs => cs
  | v => [v]

/-- A trie by numbers. -/
inductive T (α : Type) where
  | leaf
  | node (v : Option α) (l r : T α)
  deriving Inhabited

namespace T
variable {α : Type}
def get : T α → Nat → Option α
  | .leaf, _ => none
  | .node v l r, k => match k with
    | 0 => v
    | j + 1 => cond (Nat.beq (j % 2) 0) (l.get (j / 2)) (r.get (j / 2))
def setF : Nat → T α → Nat → Option α → T α
  | 0, t, _, _ => t
  | n + 1, .leaf, k, x => match k with
    | 0 => .node x .leaf .leaf
    | j + 1 => cond (Nat.beq (j % 2) 0) (.node none (setF n .leaf (j / 2) x) .leaf) (.node none .leaf (setF n .leaf (j / 2) x))
  | n + 1, .node v l r, k, x => match k with
    | 0 => .node x l r
    | j + 1 => cond (Nat.beq (j % 2) 0) (.node v (setF n l (j / 2) x) r) (.node v l (setF n r (j / 2) x))
def set (t : T α) (k : Nat) (x : α) : T α := setF (k + 1) t k (some x)
def del (t : T α) (k : Nat) : T α := setF (k + 1) t k none
def ofListFrom : List α → Nat → T α → T α
  | [], _, t => t
  | x :: l, i, t => ofListFrom l (i + 1) (t.set i x)
end T

/-- What is known of a row of cells: nothing; that it may bear the mark of a string's bytes; its elements' type, and whether it is just one variable of it. -/
inductive Tg where
  | no | str | el (t : Nat) (whole : Bool)
def Tg.isStr : Tg → Bool
  | .str => true
  | _ => false
def Tg.grown (e : Nat) : Tg → Tg
  | .str => .str
  | .el t _ => cond (Nat.beq t e) (.el e false) .no
  | .no => .no
def Tg.part : Tg → Tg
  | .el t _ => .el t false
  | g => g
/-- An object of the abstract heap. -/
inductive O where
  | cells (rw : Bool) (sb : Tg) (cs : List V)
  | map (es : List (V × V))
  deriving Inhabited

structure S where
  h : T O
  next : Nat
  deriving Inhabited

/-- Kinds of types, as far as they matter. -/
inductive K where
  | bool | int (k : IntKind) | str | ptr (e : Nat) | slice (e : Nat) | arr (n e : Nat) | map (k e : Nat)
  | struct (fs : List (Nat × Nat × Nat × Bool))      -- offset, type, size, blank
  | ifc | func | usp | other
  deriving Inhabited

structure TI where
  k : K
  size : Nat
  bytes : Nat
  zv : V
  cmp : Bool
  agg : Bool
  deriving Inhabited

def TI.isAgg (i : TI) : Bool := i.agg
def TI.zero (i : TI) : List V := i.zv.cells
def TI.zeroV (i : TI) : V := i.zv

/-- What is known ahead of a region that draws its order: a canonical order; of each operation, by its number: which effects ahead of it in that order it does not hang on; of each effect, which readers ahead of it do not hang on it. -/
structure RI where
  ord : List Nat
  pre : List (List Nat)
  post : List (List Nat)
  deriving Inhabited

abbrev CallF := Nat → List V → S → Option (V × S)
/-- What is known of operations on values that are not known. -/
abbrev OrcF := Op → List V → Option V
structure Ctx where
  tt : T TI
  ft : T Func
  ng : Nat
  sum : CallF
  ext : CallF
  ri : Nat → Nat → Option RI
  orc : OrcF

def toV0 : Value → Option V
  | .bool b => some (.bool b)
  | .int k n => some (.int k n)
  | .string s => some (.str (s.data.toList.map UInt8.toNat))
  | .pointer none => some .nil
  | .slice none 0 0 => some .nilsl
  | .map none => some .nilmp
  | .nilFunc => some .nilfn
  | .nilIface => some .nilifc
  | _ => none
def toVs : List Value → Option (List V)
  | [] => some []
  | x :: l => match toV0 x with
    | some v => match toVs l with
      | some vs => some (v :: vs)
      | none => none
    | none => none
def toV : Value → Option V
  | .agg cs => match toVs cs.toList with
    | some vs => some (.agg vs)
    | none => none
  | .tuple cs => match toVs cs.toList with
    | some vs => some (.tup vs)
    | none => none
  | v => toV0 v

def ev (ng : Nat) (tm : T V) : Operand → Option V
  | .tmp t => some ((tm.get t).getD .undef)
  | .const v => toV v
  | .global g => cond (Nat.blt g ng) (some (.ptr g 0)) none
  | .func f => some (.fn f [])

def evs (ρ : Operand → Option V) : List Operand → Option (List V)
  | [] => some []
  | x :: l => match ρ x with
    | some v => match evs ρ l with
      | some vs => some (v :: vs)
      | none => none
    | none => none

-- lists
def takeN {α : Type} : Nat → List α → Option (List α)
  | 0, _ => some []
  | _ + 1, [] => none
  | n + 1, a :: l => match takeN n l with
    | some r => some (a :: r)
    | none => none
def dropN {α : Type} : Nat → List α → List α
  | 0, l => l
  | _ + 1, [] => []
  | n + 1, _ :: l => dropN n l
def nth {α : Type} : List α → Nat → Option α
  | [], _ => none
  | a :: l, n => match n with
    | 0 => some a
    | m + 1 => nth l m
def over {α : Type} : List α → List α → Option (List α)
  | l, [] => some l
  | [], _ :: _ => none
  | _ :: l, v :: vs => match over l vs with
    | some r => some (v :: r)
    | none => none
def upd {α : Type} : List α → Nat → List α → Option (List α)
  | l, 0, vs => over l vs
  | [], _ + 1, _ => none
  | a :: l, o + 1, vs => match upd l o vs with
    | some r => some (a :: r)
    | none => none
def sub {α : Type} (l : List α) (o n : Nat) : Option (List α) := takeN n (dropN o l)

def S.cellsAt (s : S) (b o n : Nat) : Option (List V) :=
  match s.h.get b with
  | some (.cells _ _ cs) => sub cs o n
  | _ => none
def S.cellAt (s : S) (b o : Nat) : Option V :=
  match s.h.get b with
  | some (.cells _ _ cs) => nth cs o
  | _ => none
/-- Is it one cell's worth? -/
def V.scalar : V → Bool
  | .agg _ | .tup _ => false
  | _ => true
def allScalar : List V → Bool
  | [] => true
  | v :: l => v.scalar && allScalar l
def S.put (s : S) (b o : Nat) (vs : List V) : Option S :=
  match s.h.get b with
  | some (.cells true sb cs) => match allScalar vs with
    | true => match upd cs o vs with
      | some cs' => some { s with h := s.h.set b (.cells true sb cs') }
      | none => none
    | false => none
  | _ => none
/-- Does a block reach so far? -/
def S.here (s : S) (b n : Nat) : Bool :=
  match s.h.get b with
  | some (.cells _ _ cs) => Nat.ble n cs.length
  | _ => false
def S.new (s : S) (o : O) : S := { h := s.h.set s.next o, next := s.next + 1 }

-- numbers
def lim : IntKind → Nat
  | .i8 => 128 | .i16 => 32768 | .i32 => 2147483648 | .i64 => 9223372036854775808
  | .u8 => 256 | .u16 => 65536 | .u32 => 4294967296 | .u64 => 18446744073709551616
def wrapF (k : IntKind) (n : Int) : Int :=
  match n with
  | .ofNat m => cond (Nat.blt m (lim k)) n (k.wrap n)
  | .negSucc m => cond (k.signed && Nat.blt m (lim k)) n (k.wrap n)
def ltF (a b : Int) : Bool :=
  match a, b with
  | .ofNat m, .ofNat n => Nat.blt m n
  | .negSucc _, .ofNat _ => true
  | .ofNat _, .negSucc _ => false
  | .negSucc m, .negSucc n => Nat.blt n m
def eqF (a b : Int) : Bool :=
  match a, b with
  | .ofNat m, .ofNat n => Nat.beq m n
  | .negSucc m, .negSucc n => Nat.beq m n
  | _, _ => false
def kindEq : IntKind → IntKind → Bool
  | .i8, .i8 | .i16, .i16 | .i32, .i32 | .i64, .i64 | .u8, .u8 | .u16, .u16 | .u32, .u32 | .u64, .u64 => true
  | _, _ => false
def bitsSlow (op : BinOp) (k : IntKind) (x y : Int) : Option Int :=
  match op with
  | .and => some (k.wrap (BitVec.ofInt k.bits x &&& BitVec.ofInt k.bits y).toNat)
  | .or => some (k.wrap (BitVec.ofInt k.bits x ||| BitVec.ofInt k.bits y).toNat)
  | .xor => some (k.wrap (BitVec.ofInt k.bits x ^^^ BitVec.ofInt k.bits y).toNat)
  | .andNot => some (k.wrap (BitVec.ofInt k.bits x &&& ~~~BitVec.ofInt k.bits y).toNat)
  | _ => none
def bitsV (op : BinOp) (k : IntKind) (x y : Int) : Option Int :=
  match x, y with
  | .ofNat a, .ofNat b =>
    cond (Nat.blt a (lim k) && Nat.blt b (lim k))
      (match op with
       | .and => some (.ofNat (a &&& b))
       | .or => some (.ofNat (a ||| b))
       | .xor => some (.ofNat (a ^^^ b))
       | op => bitsSlow op k x y)
      (bitsSlow op k x y)
  | x, y => bitsSlow op k x y
def shiftV (op : BinOp) (k : IntKind) (x y : Int) : Option Int :=
  match y with
  | .negSucc _ => none
  | .ofNat y => match op with
    | .shl => some (wrapF k (x * 2 ^ (min y k.bits)))
    | .shr => some (x.fdiv (2 ^ (min y k.bits)))
    | _ => none
def intBin (op : BinOp) (k : IntKind) (x y : Int) : Option V :=
  match op with
  | .add => some (.int k (wrapF k (x + y)))
  | .sub => some (.int k (wrapF k (x - y)))
  | .mul => some (.int k (wrapF k (x * y)))
  | .quo => cond (eqF y 0) none (some (.int k (wrapF k (x.tdiv y))))
  | .rem => cond (eqF y 0) none (some (.int k (x.tmod y)))
  | .eql => some (.bool (eqF x y))
  | .neq => some (.bool (!eqF x y))
  | .lss => some (.bool (ltF x y))
  | .leq => some (.bool (!ltF y x))
  | .gtr => some (.bool (ltF y x))
  | .geq => some (.bool (!ltF x y))
  | op => match bitsV op k x y with
    | some n => some (.int k n)
    | none => none
def strEq : List Nat → List Nat → Bool
  | [], [] => true
  | a :: l, b :: m => Nat.beq a b && strEq l m
  | _, _ => false
def strLt : List Nat → List Nat → Bool
  | _, [] => false
  | [], _ :: _ => true
  | a :: x, b :: y => Nat.blt a b || (Nat.beq a b && strLt x y)
/-- Strings longer than this are not made. -/
def maxStr : Nat := 140737488355328
def strBin (op : BinOp) (x y : List Nat) : Option V :=
  match op with
  | .add => cond (Nat.blt (x.length + y.length) maxStr) (some (.str (x ++ y))) none
  | .eql => some (.bool (strEq x y))
  | .neq => some (.bool (!strEq x y))
  | .lss => some (.bool (strLt x y))
  | .leq => some (.bool (strLt x y || strEq x y))
  | .gtr => some (.bool (!(strLt x y || strEq x y)))
  | .geq => some (.bool (!strLt x y))
  | _ => none

-- equality
def partV (c : Ctx) (t : Nat) (cs : List V) (off : Nat) : Option V :=
  match c.tt.get t with
  | some i => match i.isAgg with
    | true => match sub cs off i.size with
      | some r => some (.agg r)
      | none => none
    | false => nth cs off
  | none => none
def ptrEq (s : S) (b o b' o' : Nat) : Option Bool :=
  match Nat.beq b b' with
  | true => some (Nat.beq o o')
  | false => match s.h.get b, s.h.get b' with
    | some (.cells true sb cs), some (.cells true sb' cs') => cond (sb.isStr || sb'.isStr) none (
      match nth cs o, nth cs' o' with
      | some _, some _ => some false
      | _, _ => none)
    | _, _ => none
def eqFields (eq : Nat → V → V → Option Bool) (c : Ctx) (xs ys : List V) : List (Nat × Nat × Nat × Bool) → Option Bool
  | [] => some true
  | (off, t, _, blank) :: fs => match blank with
    | true => eqFields eq c xs ys fs
    | false => match partV c t xs off, partV c t ys off with
      | some x, some y => match eq t x y with
        | some true => eqFields eq c xs ys fs
        | r => r
      | _, _ => none
def eqElems (eq : Nat → V → V → Option Bool) (c : Ctx) (e sz : Nat) (xs ys : List V) : Nat → Nat → Option Bool
  | 0, _ => some true
  | n + 1, off => match partV c e xs off, partV c e ys off with
    | some x, some y => match eq e x y with
      | some true => eqElems eq c e sz xs ys n (off + sz)
      | r => r
    | _, _ => none
def eqV (c : Ctx) (s : S) : Nat → Nat → V → V → Option Bool
  | 0, _, _, _ => none
  | d + 1, t, x, y => match c.tt.get t with
    | none => none
    | some i => match i.k, x, y with
      | .bool, .bool a, .bool b => some (a == b)
      | .int _, .int k a, .int k' b => cond (kindEq k k') (some (eqF a b)) none
      | .str, .str a, .str b => some (strEq a b)
      | .ptr _, .nil, .nil => some true
      | .ptr _, .nil, .ptr _ _ => some false
      | .ptr _, .ptr _ _, .nil => some false
      | .ptr e, .ptr b o, .ptr b' o' => match c.tt.get e with
        | some ie => cond (Nat.beq ie.size 0) none (ptrEq s b o b' o')
        | none => none
      | .slice _, .nilsl, .nilsl => some true
      | .slice _, .nilsl, .sl .. => some false
      | .slice _, .sl .., .nilsl => some false
      | .map _ _, .nilmp, .nilmp => some true
      | .map _ _, .nilmp, .mp _ => some false
      | .map _ _, .mp _, .nilmp => some false
      | .func, .nilfn, .nilfn => some true
      | .func, .nilfn, .fn .. => some false
      | .func, .fn .., .nilfn => some false
      | .ifc, .nilifc, .ifc .. => some false
      | .ifc, .ifc .., .nilifc => some false
      | .struct fs, .agg xs, .agg ys => cond i.cmp (eqFields (eqV c s d) c xs ys fs) none
      | .arr n e, .agg xs, .agg ys => match c.tt.get e with
        | some ie => eqElems (eqV c s d) c e ie.size xs ys n 0
        | none => none
      | _, _, _ => none
def isConst : Operand → Bool
  | .const _ => true
  | _ => false
def binV (c : Ctx) (s : S) (op : BinOp) (xt : Nat) (xo yo : Operand) (x y : V) : Option V :=
  match x, y with
  | .int k a, .int k' b => match op with
    | .shl | .shr => match shiftV op k a b with
      | some n => some (.int k n)
      | none => none
    | op => cond (kindEq k k') (intBin op k a b) none
  | .str a, .str b => strBin op a b
  | .nilifc, .nilifc => match c.tt.get xt with
    | some i => match i.k with
      | .ifc => cond (isConst xo || isConst yo) (match op with | .eql => some (.bool true) | .neq => some (.bool false) | _ => none) none
      | _ => none
    | none => none
  | .agg xs, .agg ys => match c.tt.get xt with
    | some i => cond i.cmp (match op with
      | .eql => match eqV c s 8 xt (.agg xs) (.agg ys) with
        | some r => some (.bool r)
        | none => none
      | .neq => match eqV c s 8 xt (.agg xs) (.agg ys) with
        | some r => some (.bool !r)
        | none => none
      | _ => none) none
    | none => none
  | x, y => match op with
    | .eql => match eqV c s 8 xt x y with
      | some r => some (.bool r)
      | none => none
    | .neq => match eqV c s 8 xt x y with
      | some r => some (.bool !r)
      | none => none
    | _ => none
def unV (op : UnOp) (x : V) : Option V :=
  match op, x with
  | .neg, .int k n => some (.int k (wrapF k (0 - n)))
  | .xor, .int k n => match bitsV .xor k (if k.signed then -1 else k.max) n with
    | some r => some (.int k r)
    | none => none
  | .not, .bool b => some (.bool !b)
  | _, _ => none

-- aggregates
def fillV (place : Nat → Option (Nat × Nat)) : List V → List (Nat × V) → Option (List V)
  | cells, [] => some cells
  | cells, (i, v) :: rest => match place i with
    | none => none
    | some (off, size) => match Nat.beq v.cells.length size with
      | false => none
      | true => match upd cells off v.cells with
        | some cs => fillV place cs rest
        | none => none
def partsV (ρ : Operand → Option V) : List (Nat × Operand) → Option (List (Nat × V))
  | [] => some []
  | (i, x) :: l => match ρ x with
    | some v => match partsV ρ l with
      | some vs => some ((i, v) :: vs)
      | none => none
    | none => none
def placeS (fs : List (Nat × Nat × Nat × Bool)) (j : Nat) : Option (Nat × Nat) :=
  match nth fs j with
  | some (off, _, size, _) => some (off, size)
  | none => none
def buildV (c : Ctx) (t : Nat) (ps : List (Nat × V)) : Option V :=
  match c.tt.get t with
  | some i => match i.k with
    | .struct fs => match fillV (placeS fs) i.zero ps with
      | some cs => some (.agg cs)
      | none => none
    | .arr _ e => match c.tt.get e with
      | some ie => match fillV (fun j => some (j * ie.size, ie.size)) i.zero ps with
        | some cs => some (.agg cs)
        | none => none
      | none => none
    | _ => none
  | none => none
def repeatV {α : Type} (z : List α) : Nat → List α
  | 0 => []
  | n + 1 => z ++ repeatV z n

-- numbers as places
def natOf : V → Option Nat
  | .int _ (.ofNat n) => some n
  | _ => none
def optNat (ρ : Operand → Option V) (dflt : Nat) : Option Operand → Option Nat
  | none => some dflt
  | some o => match ρ o with
    | some v => natOf v
    | none => none

def sliceV (c : Ctx) (s : S) (ρ : Operand → Option V) (t : Nat) (x : V) (lo hi mx : Option Operand) : Option V :=
  match c.tt.get t with
  | none => none
  | some i => match i.k, x with
    | .str, .str x => match mx with
      | some _ => none
      | none => match optNat ρ 0 lo, optNat ρ x.length hi with
        | some l, some h => cond (Nat.ble l h && Nat.ble h x.length) (match sub x l (h - l) with | some r => some (.str r) | none => none) none
        | _, _ => none
    | .slice e, .sl b o len cap esz ex => match c.tt.get e with
      | some ie =>
        match optNat ρ cap mx, optNat ρ len hi, optNat ρ 0 lo with
        | some m, some h, some l =>
          cond (Nat.ble l h && Nat.ble h m && Nat.ble m cap && Nat.beq esz ie.size && (hi.isSome || mx.isNone)) (some (.sl b (o + l * esz) (h - l) (m - l) esz (ex || mx.isSome))) none
        | _, _, _ => none
      | none => none
    | .slice e, .nilsl => match c.tt.get e with
      | some _ =>
        match optNat ρ 0 mx, optNat ρ 0 hi, optNat ρ 0 lo with
        | some 0, some 0, some 0 => cond (hi.isSome || mx.isNone) (some .nilsl) none
        | _, _, _ => none
      | none => none
    | .arr n e, .ptr b o => match c.tt.get e with
      | some ie =>
        match optNat ρ n mx, optNat ρ n hi, optNat ρ 0 lo with
        | some m, some h, some l =>
          cond (Nat.ble l h && Nat.ble h m && Nat.ble m n && Nat.blt l m && (hi.isSome || mx.isNone) && s.here b (o + n * ie.size)) (some (.sl b (o + l * ie.size) (h - l) (m - l) ie.size true)) none
        | _, _, _ => none
      | none => none
    | _, _ => none

def bytesOf : List V → Option (List Nat)
  | [] => some []
  | .int .u8 (.ofNat n) :: l => cond (Nat.blt n 256) (match bytesOf l with
    | some r => some (n :: r)
    | none => none) none
  | _ => none

def convV (c : Ctx) (s : S) (src dst : Nat) (x : V) : Option V :=
  match c.tt.get src, c.tt.get dst with
  | some i, some j => match i.k, j.k, x with
    | .int _, .int k, .int _ n => some (.int k (wrapF k n))
    | .str, .str, .str l => some (.str l)
    | .slice e, .str, .nilsl => match c.tt.get e with
      | some ie => match ie.k with
        | .int .u8 => some (.str [])
        | _ => none
      | none => none
    | .slice e, .str, .sl b o len _ _ _ => match c.tt.get e with
      | some ie => match ie.k with
        | .int .u8 => match Nat.beq len 0 with
          | true => some (.str [])
          | false => match s.cellsAt b o len with
            | some cs => match bytesOf cs with
              | some l => some (.str l)
              | none => none
            | none => none
        | _ => none
      | none => none
    | .ptr e, .usp, .ptr b o => match c.tt.get e with
      | some ie => cond (!Nat.beq ie.size 0 && s.here b (o + 1)) (some (.ptr b o)) none
      | none => none
    | .usp, .ptr u, .ptr b o => match c.tt.get u, s.h.get b with
      | some iu, some (.cells true (.el t true) cs) => cond (!Nat.beq iu.size 0 && Nat.beq t u && Nat.beq o 0 && Nat.beq cs.length iu.size) (some (.ptr b 0)) none
      | _, _ => none
    | _, _, _ => none
  | _, _ => none

/-- Keys of maps: whole numbers and strings. -/
def keyEq : V → V → Option Bool
  | .int k a, .int k' b => cond (kindEq k k') (some (eqF a b)) none
  | .str a, .str b => some (strEq a b)
  | _, _ => none
def findV (k : V) : List (V × V) → Nat → Option (Option (Nat × V))
  | [], _ => some none
  | (k', v) :: es, i => match keyEq k k' with
    | some true => some (some (i, v))
    | some false => findV k es (i + 1)
    | none => none
/-- Is it a key of that type: a whole number, or a string? -/
def keyOk (c : Ctx) (t : Nat) (k : V) : Bool :=
  match c.tt.get t with
  | some i => match i.k, k with
    | .int _, .int .. => true
    | .str, .str _ => true
    | _, _ => false
  | none => false
def lookupV (c : Ctx) (s : S) (t : Nat) (m k : V) (ok : Bool) : Option V :=
  match c.tt.get t with
  | some i => match i.k with
    | .map kt et => match keyOk c kt k, c.tt.get et with
      | true, some ie =>
        let es := match m with
          | .nilmp => some []
          | .mp b => match s.h.get b with
            | some (.map es) => some es
            | _ => none
          | _ => none
        match es with
        | some es => match findV k es 0 with
          | some (some (_, v)) => some (cond ok (.tup [v, .bool true]) v)
          | some none => some (cond ok (.tup [ie.zeroV, .bool false]) ie.zeroV)
          | none => none
        | none => none
      | _, _ => none
    | _ => none
  | none => none

def minmax (mx : Bool) : V → List V → Option V
  | v, [] => some v
  | .int k a, .int k' b :: l => cond (kindEq k k') (minmax mx (.int k (cond (cond mx (ltF a b) (ltF b a)) b a)) l) none
  | _, _ => none

def lenV (c : Ctx) (s : S) (t : Nat) (x : V) : Option V :=
  match c.tt.get t with
  | none => none
  | some i => match i.k, x with
    | .str, .str l => some (.int .i64 l.length)
    | .arr n _, _ => some (.int .i64 n)
    | .ptr a, _ => match c.tt.get a with
      | some ia => match ia.k with
        | .arr n _ => some (.int .i64 n)
        | _ => none
      | none => none
    | .slice _, .sl _ _ len _ _ _ => some (.int .i64 len)
    | .slice _, .nilsl => some (.int .i64 0)
    | .map _ _, .nilmp => some (.int .i64 0)
    | .map _ _, .mp b => match s.h.get b with
      | some (.map es) => some (.int .i64 es.length)
      | _ => none
    | _, _ => none

def capV (c : Ctx) (t : Nat) (x : V) : Option V :=
  match c.tt.get t with
  | some i => match i.k with
    | .slice _ => match x with
      | .nilsl => some (.int .i64 0)
      | .sl _ _ _ cap _ ex => cond ex (some (.int .i64 (.ofNat cap))) none
      | _ => none
    | _ => none
  | none => none
def sliceDataV : V → Option V
  | .nilsl => some .nil
  | .sl b o _ cap _ _ => cond (Nat.beq cap 0) none (some (.ptr b o))
  | _ => none
/-- unsafe.String: the row's bytes are frozen, and not looked at again. -/
def unsafeStrV (c : Ctx) (s : S) (pt : Nat) (p n : V) : Option (V × S) :=
  match n with
  | .int .i64 (.ofNat n) => match n, p with
    | 0, .nil => some (.str [], s)
    | 0, .ptr _ _ => some (.str [], s)
    | m + 1, .ptr b o => match c.tt.get pt with
      | some i => match i.k with
        | .ptr e => match c.tt.get e, s.h.get b, s.cellsAt b o (m + 1) with
          | some ie, some (.cells true (.el t _) _), some cs => match bytesOf cs with
            | some l => cond (Nat.beq t e && Nat.beq ie.size 1 && Nat.ble (m + 1) 4611686018427387904) (some (.str l, { s with h := s.h.del b })) none
            | none => none
          | _, _, _ => none
        | _ => none
      | none => none
    | _, _ => none
  | _ => none

/-- Operations that leave memory alone. -/
def pureV0 (c : Ctx) (o : Op) (ρ : Operand → Option V) (s : S) : Option V :=
  match o with
  | .move x => ρ x
  | .assign x => ρ x
  | .pick t a b => match ρ t with
    | some (.bool true) => ρ a
    | some (.bool false) => ρ b
    | _ => none
  | .build t ps => match partsV ρ ps.toList with
    | some ps => buildV c t ps
    | none => none
  | .load t a => match ρ a, c.tt.get t with
    | some (.ptr b o), some i => match i.isAgg with
      | true => match s.cellsAt b o i.size with
        | some cs => some (.agg cs)
        | none => none
      | false => s.cellAt b o
    | _, _ => none
  | .nilCheck x => match ρ x with
    | some (.ptr b o) => some (.ptr b o)
    | some (.fn f cs) => some (.fn f cs)
    | _ => none
  | .binOp op t x y _ => match ρ x, ρ y with
    | some a, some b => binV c s op t x y a b
    | _, _ => none
  | .unOp op _ x => match ρ x with
    | some a => unV op a
    | none => none
  | .convert src dst x => match ρ x with
    | some a => convV c s src dst a
    | none => none
  | .makeInterface t x => match ρ x, c.tt.get t with
    | some a, some i => match i.k with
      | .ifc => none
      | _ => some (.ifc t a)
    | _, _ => none
  | .makeFunc (.func f) first caps => match first.toList with
    | [] => match evs ρ caps.toList with
      | some vs => some (.fn f vs)
      | none => none
    | _ => none
  | .slice t x lo hi mx => match ρ x with
    | some a => sliceV c s ρ t a lo hi mx
    | none => none
  | .fieldAddr t x f => match ρ x, c.tt.get t with
    | some (.ptr b o), some i => match i.k with
      | .struct fs => match nth fs f with
        | some (off, _, size, _) => cond (Nat.beq size 0) none (some (.ptr b (o + off)))
        | none => none
      | _ => none
    | _, _ => none
  | .field t x f => match ρ x, c.tt.get t with
    | some (.agg cs), some i => match i.k with
      | .struct fs => match nth fs f with
        | some (off, ft, _, _) => partV c ft cs off
        | none => none
      | _ => none
    | _, _ => none
  | .indexAddr t x ix => match ρ x, ρ ix, c.tt.get t with
    | some x, some (.int _ (.ofNat n)), some i => match i.k, x with
      | .arr len e, .ptr b o => match c.tt.get e with
        | some ie => cond (Nat.blt n len) (some (.ptr b (o + n * ie.size))) none
        | none => none
      | .slice e, .sl b o len _ esz _ => match c.tt.get e with
        | some ie => cond (Nat.blt n len && Nat.beq esz ie.size) (some (.ptr b (o + n * esz))) none
        | none => none
      | _, _ => none
    | _, _, _ => none
  | .index t x ix => match ρ x, ρ ix, c.tt.get t with
    | some x, some (.int _ (.ofNat n)), some i => match i.k, x with
      | .arr len e, .agg cs => match c.tt.get e with
        | some ie => cond (Nat.blt n len) (partV c e cs (n * ie.size)) none
        | none => none
      | .str, .str l => match nth l n with
        | some m => some (.int .u8 m)
        | none => none
      | _, _ => none
    | _, _, _ => none
  | .lookup t m k ok => match ρ m, ρ k with
    | some m, some k => lookupV c s t m k ok
    | _, _ => none
  | .extract x i => match ρ x with
    | some (.tup vs) => nth vs i
    | _ => none
  | .call cl => match cl.callee with
    | .builtin .len => match evs ρ cl.args.toList, cl.argTypes.toList with
      | some (x :: _), t :: _ => lenV c s t x
      | _, _ => none
    | .builtin .min => match evs ρ cl.args.toList with
      | some (x :: l) => minmax false x l
      | _ => none
    | .builtin .max => match evs ρ cl.args.toList with
      | some (x :: l) => minmax true x l
      | _ => none
    | .builtin .cap => match evs ρ cl.args.toList, cl.argTypes.toList with
      | some [x], t :: _ => capV c t x
      | _, _ => none
    | .builtin .unsafeSliceData => match evs ρ cl.args.toList with
      | some [x] => sliceDataV x
      | _ => none
    | _ => none
  | _ => none

def pureV (c : Ctx) (o : Op) (ρ : Operand → Option V) (s : S) : Option V :=
  match pureV0 c o ρ s with
  | some v => some v
  | none => match evs ρ o.operands.toList with
    | some args => c.orc o args
    | none => none

/-- Operations that make one block. -/
def allocV (c : Ctx) (o : Op) (ρ : Operand → Option V) : Option (O × (Nat → V)) :=
  match o with
  | .alloc e => match c.tt.get e with
    | some i => some (.cells true (.el e true) i.zero, fun b => .ptr b 0)
    | none => none
  | .box _ x => match ρ x with
    | some v => some (.cells true .no v.cells, fun b => .ptr b 0)
    | none => none
  | .buildSlice t len ps => match c.tt.get t, partsV ρ ps.toList with
    | some i, some ps => match i.k with
      | .slice e => match c.tt.get e with
        | some ie => cond (Nat.ble (len * ie.size) 16777216)
            (match fillV (fun j => some (j * ie.size, ie.size)) (repeatV ie.zero len) ps with
             | some cs => some (.cells true .no cs, fun b => .sl b 0 len len ie.size true)
             | none => none) none
        | none => none
      | _ => none
    | _, _ => none
  | .makeSlice t l m => match ρ l, ρ m, c.tt.get t with
    | some (.int .i64 (.ofNat l)), some (.int .i64 (.ofNat m)), some i => match i.k with
      | .slice e => match c.tt.get e with
        | some ie => cond (Nat.ble l m && Nat.ble (ie.bytes * m) 1099511627776 && Nat.ble m 1099511627776)
            (some (.cells true .no (repeatV ie.zero m), fun b => .sl b 0 l m ie.size true)) none
        | none => none
      | _ => none
    | _, _, _ => none
  | .makeMap t r => match r with
    | none => match c.tt.get t with
      | some i => match i.k with
        | .map _ _ => some (.map [], fun b => .mp b)
        | _ => none
      | none => none
    | some _ => none
  | .convert src dst x => match ρ x, c.tt.get src, c.tt.get dst with
    | some (.str l), some i, some j => match i.k, j.k with
      | .str, .slice e => match c.tt.get e with
        | some ie => match ie.k with
          | .int .u8 => some (.cells true .str (l.map byteV), fun b => .sl b 0 l.length l.length 1 false)
          | _ => none
        | none => none
      | _, _ => none
    | _, _, _ => none
  | _ => none

def newCells (s : S) (esz : Nat) : V → Option (List V × Nat)
  | .nilsl => some ([], 0)
  | .sl b o len _ _ _ => match len with
    | 0 => some ([], 0)
    | _ => match s.cellsAt b o (len * esz) with
      | some cs => some (cs, len)
      | none => none
  | .str l => cond (Nat.beq esz 1) (some (l.map byteV, l.length)) none
  | _ => none
def appendV (c : Ctx) (s : S) (t : Nat) (x y : V) : Option (V × S) :=
  match c.tt.get t with
  | some i => match i.k with
    | .slice e => match c.tt.get e with
      | some ie => match newCells s ie.size y with
        | some (new, n) => match x with
          | .nilsl => match Nat.beq n 0 with
            | true => some (.nilsl, s)
            | false => cond (Nat.ble ((2 * n + 1024) * (ie.bytes + 1)) 140737488355328)
                (some (.sl s.next 0 n n ie.size false, s.new (.cells true (.el e false) new))) none
          | .sl b o len cap esz ex => match Nat.beq n 0 with
            | true => some (.sl b o len cap esz ex, s)
            | false => match Nat.ble (len + n) cap with
              | true => match s.put b (o + len * ie.size) new with
                | some s' => some (.sl b o (len + n) cap esz ex, s')
                | none => match s.h.get b with
                  | some (.cells true sb cs) => cond (Nat.beq esz ie.size && allScalar new && Nat.beq cs.length (o + len * ie.size))
                      (some (.sl b o (len + n) cap esz ex, { s with h := s.h.set b (.cells true sb.part (cs ++ new)) })) none
                  | _ => none
              | false => cond (Nat.beq esz ie.size && Nat.ble ((2 * (len + n) + 1024) * (ie.bytes + 1)) 140737488355328)
                  (match s.h.get b with
                   | some (.cells rw sb cs) => match sub cs o (len * esz) with
                     | some old => match ex with
                       | true => some (.sl s.next 0 (len + n) (len + n) esz false, s.new (.cells true (.el e false) (old ++ new)))
                       | false => cond (rw && allScalar new) (some (.sl s.next 0 (len + n) (len + n) esz false,
                           { h := (s.h.del b).set s.next (.cells true (sb.grown e) (old ++ new)), next := s.next + 1 })) none
                     | none => none
                   | _ => none) none
          | _ => none
        | none => none
      | none => none
    | _ => none
  | none => none
def copyV (c : Ctx) (s : S) (t : Nat) (x y : V) : Option (V × S) :=
  match c.tt.get t with
  | some i => match i.k with
    | .slice e => match c.tt.get e with
      | some ie =>
        let ly := match y with
          | .nilsl => some 0
          | .sl _ _ len _ _ _ => some len
          | .str l => some l.length
          | _ => none
        match x, ly with
        | .nilsl, some _ => some (.int .i64 0, s)
        | .sl b o len _ _ _, some ly =>
          match Nat.min ly len with
          | 0 => some (.int .i64 0, s)
          | n + 1 =>
            let cs := match y with
              | .sl b' o' _ _ _ _ => s.cellsAt b' o' ((n + 1) * ie.size)
              | .str l => cond (Nat.beq ie.size 1) (match takeN (n + 1) l with
                | some l => some (l.map byteV)
                | none => none) none
              | _ => none
            match cs with
            | some cs => match s.put b o cs with
              | some s' => some (.int .i64 (n + 1 : Nat), s')
              | none => none
            | none => none
        | _, _ => none
      | none => none
    | _ => none
  | none => none
def clearV (c : Ctx) (s : S) (t : Nat) (x : V) : Option (V × S) :=
  match c.tt.get t with
  | some i => match i.k, x with
    | .slice _, .nilsl => some (.undef, s)
    | .slice e, .sl b o len _ _ _ => match Nat.beq len 0 with
      | true => some (.undef, s)
      | false => match c.tt.get e with
        | some ie => match s.put b o (repeatV ie.zero len) with
          | some s' => some (.undef, s')
          | none => none
        | none => none
    | _, _ => none
  | none => none
def setVal (v : V) : List (V × V) → Nat → V → List (V × V)
  | [], _, _ => []
  | (k', v') :: es, n, k => match n with
    | 0 => (k, v) :: es
    | m + 1 => (k', v') :: setVal v es m k
def delAt : List (V × V) → Nat → List (V × V)
  | [], _ => []
  | e :: es, n => match n with
    | 0 => es
    | m + 1 => e :: delAt es m
def mapSetV (c : Ctx) (s : S) (t : Nat) (m k v : V) : Option S :=
  match c.tt.get t with
  | some i => match i.k, m with
    | .map kt _, .mp b => cond (keyOk c kt k)
      (match s.h.get b with
       | some (.map es) => match findV k es 0 with
         | some (some (i, _)) => some { s with h := s.h.set b (.map (setVal v es i k)) }
         | some none => some { s with h := s.h.set b (.map (es ++ [(k, v)])) }
         | none => none
       | _ => none) none
    | _, _ => none
  | none => none
def mapDelV (c : Ctx) (s : S) (t : Nat) (m k : V) : Option S :=
  match c.tt.get t with
  | some i => match i.k, m with
    | .map kt _, .mp b => cond (keyOk c kt k)
      (match s.h.get b with
       | some (.map es) => match findV k es 0 with
         | some (some (i, _)) => some { s with h := s.h.set b (.map (delAt es i)) }
         | some none => some s
         | none => none
       | _ => none) none
    | _, _ => none
  | none => none


/-- Operations that write, or call. -/
def effV (c : Ctx) (call : CallF) (o : Op) (ρ : Operand → Option V) (s : S) : Option (V × S) :=
  match o with
  | .store t a x => match ρ a, ρ x, c.tt.get t with
    | some (.ptr b o), some v, some i => cond (Nat.beq v.cells.length i.size) (match s.put b o v.cells with
      | some s' => some (.undef, s')
      | none => none) none
    | _, _, _ => none
  | .mapUpdate t m k v | .insert t m k v => match ρ m, ρ k, ρ v with
    | some m, some k, some v => match mapSetV c s t m k v with
      | some s' => some (.undef, s')
      | none => none
    | _, _, _ => none
  | .call cl => match cl.callee with
    | .value f => match ρ f, evs ρ cl.args.toList with
      | some (.fn g caps), some args => match c.ext g (args ++ caps) s with
        | some r => some r
        | none => match c.ft.get g with
          | some fn => match fn.body with
            | some _ => call g (args ++ caps) s
            | none => none
          | none => none
      | _, _ => none
    | .builtin .append => match evs ρ cl.args.toList, cl.argTypes.toList with
      | some [x, y], [t, ty] => match c.tt.get ty with
        | some iy => match iy.k with
          | .int _ => none
          | _ => appendV c s t x y
        | none => none
      | _, _ => none
    | .builtin .copy => match evs ρ cl.args.toList, cl.argTypes.toList with
      | some [x, y], t :: _ => copyV c s t x y
      | _, _ => none
    | .builtin .clear => match evs ρ cl.args.toList, cl.argTypes.toList with
      | some [x], t :: _ => clearV c s t x
      | _, _ => none
    | .builtin .delete => match evs ρ cl.args.toList, cl.argTypes.toList with
      | some [m, k], t :: _ => match mapDelV c s t m k with
        | some s' => some (.undef, s')
        | none => none
      | _, _ => none
    | .builtin .unsafeString => match evs ρ cl.args.toList, cl.argTypes.toList with
      | some [p, n], [pt, _] => unsafeStrV c s pt p n
      | _, _ => none
    | _ => none
  | .convert src dst x => match ρ x, c.tt.get src, c.tt.get dst with
    | some (.sl b o len cap esz ex), some _, some j => match Nat.beq src dst && Nat.blt 0 cap, j.k with
      | true, .slice e => match c.tt.get e with
        | some ie => match ie.k with
          | .int .u8 => match s.h.get b with
            | some (.cells true _ cs) => some (.sl b o len cap esz ex, { s with h := s.h.set b (.cells true .str cs) })
            | _ => none
          | _ => none
        | none => none
      | _, _ => none
    | _, _, _ => none
  | _ => none

/-- Which of the three an operation is. -/
inductive Cls where
  | pure | alloc | eff
def clsOf (c : Ctx) : Op → Cls
  | .alloc _ | .box .. | .buildSlice .. | .makeSlice .. | .makeMap .. => .alloc
  | .convert src dst _ => match c.tt.get src, c.tt.get dst with
    | some i, some j => match i.k, j.k with
      | .str, .slice _ => .alloc
      | .slice _, .slice _ => .eff
      | _, _ => .pure
    | _, _ => .pure
  | .store .. | .mapUpdate .. | .insert .. => .eff
  | .call cl => match cl.callee with
    | .value _ => .eff
    | .builtin .append | .builtin .copy | .builtin .clear | .builtin .delete | .builtin .unsafeString => .eff
    | _ => .pure
  | _ => .pure

def stepV (c : Ctx) (call : CallF) (o : Op) (ρ : Operand → Option V) (s : S) : Option (V × S) :=
  match clsOf c o with
  | .pure => match pureV c o ρ s with
    | some v => some (v, s)
    | none => none
  | .alloc => match allocV c o ρ with
    | some (ob, f) => some (f s.next, s.new ob)
    | none => none
  | .eff => effV c call o ρ s

/-- Is an operation done? -/
def wantedV (ops : Array Oper) (tm : T V) (o : Oper) : Bool :=
  match o.guard with
  | none => true
  | some (j, want) => match (nth ops.toList j).bind (·.dst) with
    | some t => match tm.get t with
      | some (.bool b) => b == want
      | _ => false
    | none => false
def putT (n : Nat) (tm : T V) (dst : Option Tmp) (v : V) : Option (T V) :=
  match dst with
  | none => some tm
  | some d => cond (Nat.blt d n) (some (tm.set d v)) none

/-- The operations of a region, in the text's order. -/
def seqV (c : Ctx) (call : CallF) (n : Nat) (ops : Array Oper) : List Oper → T V → S → Option (T V × S)
  | [], tm, s => some (tm, s)
  | o :: l, tm, s => match wantedV ops tm o with
    | true => match stepV c call o.op (ev c.ng tm) s with
      | some (v, s') => match putT n tm o.dst v with
        | some tm' => seqV c call n ops l tm' s'
        | none => none
      | none => none
    | false => match putT n tm o.dst .undef with
      | some tm' => seqV c call n ops l tm' s
      | none => none

def beqV : Nat → V → V → Bool
  | 0, _, _ => false
  | d + 1, x, y => match x, y with
    | .bool a, .bool b => a == b
    | .int k a, .int k' b => kindEq k k' && eqF a b
    | .str a, .str b => strEq a b
    | .ptr a b, .ptr a' b' => Nat.beq a a' && Nat.beq b b'
    | .nil, .nil => true
    | .sl a b c e f g, .sl a' b' c' e' f' g' => Nat.beq a a' && Nat.beq b b' && Nat.beq c c' && Nat.beq e e' && Nat.beq f f' && g == g'
    | .nilsl, .nilsl => true
    | .mp a, .mp b => Nat.beq a b
    | .nilmp, .nilmp => true
    | .fn f cs, .fn g ds => Nat.beq f g && all2 (beqV d) cs ds
    | .nilfn, .nilfn => true
    | .agg cs, .agg ds => all2 (beqV d) cs ds
    | .tup cs, .tup ds => all2 (beqV d) cs ds
    | .ifc t v, .ifc u w => Nat.beq t u && beqV d v w
    | .nilifc, .nilifc => true
    | .sint k i, .sint k' j => kindEq k k' && Nat.beq i j
    | .sstr i, .sstr j => Nat.beq i j
    | _, _ => false
where
  all2 (f : V → V → Bool) : List V → List V → Bool
    | [], [] => true
    | x :: l, y :: m => f x y && all2 f l m
    | _, _ => false

/-- Operations whose value hangs on their operands alone. -/
def memFree (c : Ctx) : Op → Bool
  | .move _ | .assign _ | .pick .. | .build .. | .nilCheck _ | .unOp .. | .makeInterface .. | .makeFunc .. | .fieldAddr .. | .field ..
  | .indexAddr .. | .index .. | .extract .. => true
  | .slice t _ _ _ _ => match c.tt.get t with
    | some i => match i.k with
      | .arr .. => false
      | _ => true
    | none => false
  | .binOp _ t _ _ _ => match c.tt.get t with
    | some i => match i.k with
      | .int _ | .str => true
      | _ => false
    | none => false
  | .convert src dst _ => match c.tt.get src, c.tt.get dst with
    | some i, some j => match i.k, j.k with
      | .int _, .int _ | .str, .str => true
      | _, _ => false
    | _, _ => false
  | .call cl => match cl.callee with
    | .builtin .min | .builtin .max => true
    | .builtin .len => match cl.argTypes.toList with
      | t :: _ => match c.tt.get t with
        | some i => match i.k with
          | .map .. => false
          | _ => true
        | none => false
      | [] => false
    | _ => false
  | _ => false

/-- What became of an operation of a region that draws its order. -/
inductive Kd where
  | skip
  | free (v : V)
  | pure (r : S → Option V) (v : V)
  | alloc (ob : O) (f : Nat → V)
  | eff (v : V)
  | pend (b : Nat) (ob : O) (r : S → Option V) (v : V)
structure Rec where
  i : Nat
  o : Oper
  tm : T V
  s : S
  cur : S
  kd : Kd
  tmN : T V
  sN : S

def sameRead (r : S → Option V) (v : V) (s : S) : Bool :=
  match r s with
  | some v' => beqV 4 v v'
  | none => false

/-- What is read of a block that was made in this very region, behind its last effect. -/
def pendV (c : Ctx) (o : Op) (ρ : Operand → Option V) (cur s : S) : Option (Nat × O × V) :=
  match o with
  | .load _ a => match ρ a with
    | some (.ptr b _) => match Nat.ble cur.next b, s.h.get b with
      | true, some ob => match pureV c o ρ ⟨T.leaf.set b ob, 0⟩ with
        | some v => some (b, ob, v)
        | none => none
      | _, _ => none
    | _ => none
  | _ => none

/-- The operations in a canonical order: what became of each. What reads memory looks at it as the last effect left it. -/
def recsV (c : Ctx) (call : CallF) (n : Nat) (ops : Array Oper) : List Nat → T V → S → S → Option (List Rec × T V × S)
  | [], tm, s, _ => some ([], tm, s)
  | i :: l, tm, s, cur => match nth ops.toList i with
    | none => none
    | some o => match wantedV ops tm o with
      | false => match putT n tm o.dst .undef with
        | some tm' => match recsV c call n ops l tm' s cur with
          | some (r, tm2, s2) => some (⟨i, o, tm, s, cur, .skip, tm', s⟩ :: r, tm2, s2)
          | none => none
        | none => none
      | true => match clsOf c o.op with
        | .pure => match memFree c o.op with
          | true => match pureV c o.op (ev c.ng tm) s with
            | some v => match putT n tm o.dst v with
              | some tm' => match recsV c call n ops l tm' s cur with
                | some (r, tm2, s2) => some (⟨i, o, tm, s, cur, .free v, tm', s⟩ :: r, tm2, s2)
                | none => none
              | none => none
            | none => none
          | false => match pureV c o.op (ev c.ng tm) cur with
            | some v => match putT n tm o.dst v with
              | some tm' => match recsV c call n ops l tm' s cur with
                | some (r, tm2, s2) => some (⟨i, o, tm, s, cur, .pure (pureV c o.op (ev c.ng tm)) v, tm', s⟩ :: r, tm2, s2)
                | none => none
              | none => none
            | none => match pendV c o.op (ev c.ng tm) cur s with
              | some (b, ob, v) => match putT n tm o.dst v with
                | some tm' => match recsV c call n ops l tm' s cur with
                  | some (r, tm2, s2) => some (⟨i, o, tm, s, cur, .pend b ob (pureV c o.op (ev c.ng tm)) v, tm', s⟩ :: r, tm2, s2)
                  | none => none
                | none => none
              | none => none
        | .alloc => match allocV c o.op (ev c.ng tm) with
          | some (ob, f) => match putT n tm o.dst (f s.next) with
            | some tm' => match recsV c call n ops l tm' (s.new ob) cur with
              | some (r, tm2, s2) => some (⟨i, o, tm, s, cur, .alloc ob f, tm', s.new ob⟩ :: r, tm2, s2)
              | none => none
            | none => none
          | none => none
        | .eff => match effV c call o.op (ev c.ng tm) s with
          | some (v, s') => match Nat.ble s.next s'.next with
            | true => match putT n tm o.dst v with
              | some tm' => match recsV c call n ops l tm' s' s' with
                | some (r, tm2, s2) => some (⟨i, o, tm, s, cur, .eff v, tm', s'⟩ :: r, tm2, s2)
                | none => none
              | none => none
            | false => none
          | none => none

def allN (f : Nat → Bool) : List Nat → Bool
  | [] => true
  | a :: l => f a && allN f l
def allR (f : Rec → Bool) : List Rec → Bool
  | [] => true
  | a :: l => f a && allR f l
/-- Do the readers read the same wherever they may stand? -/
def looksOk (ri : RI) (recs : List Rec) : Bool :=
  allR (fun y => match y.kd with
    | .pure r v => allN (fun e => allR (fun x => match Nat.beq x.i e, x.kd with
        | true, .eff _ => sameRead r v x.cur
        | _, _ => true) recs) ((nth ri.pre y.i).getD [])
    | .pend _ _ _ _ => allN (fun e => allR (fun x => match Nat.beq x.i e, x.kd with
        | true, .eff _ => false
        | _, _ => true) recs) ((nth ri.pre y.i).getD [])
    | .eff _ => allN (fun i => allR (fun x => match Nat.beq x.i i, x.kd with
        | true, .pure r v => sameRead r v y.sN
        | true, .pend _ _ r v => sameRead r v y.sN
        | _, _ => true) recs) ((nth ri.post y.i).getD [])
    | _ => true) recs
def drawV (c : Ctx) (call : CallF) (n : Nat) (ops : Array Oper) (ri : RI) (tm : T V) (s : S) : Option (T V × S) :=
  match recsV c call n ops ri.ord tm s s with
  | some (recs, tm', s') => match looksOk ri recs with
    | true => some (tm', s')
    | false => none
  | none => none

inductive Ex where
  | normal
  | exit (id : Nat)
  | ret

def iterV (f : T V → S → Option (Ex × T V × S)) : Nat → T V → S → Option (Ex × T V × S)
  | 0, _, _ => none
  | n + 1, tm, s => match f tm s with
    | some (.normal, tm', s') => iterV f n tm' s'
    | r => r

def codeV (c : Ctx) (call : CallF) (lf fid n : Nat) : Code → T V → S → Option (Ex × T V × S)
  | .skip, tm, s => some (.normal, tm, s)
  | .label _, tm, s => some (.normal, tm, s)
  | .region id ops draw, tm, s => match draw with
    | false => match seqV c call n ops ops.toList tm s with
      | some (tm', s') => some (.normal, tm', s')
      | none => none
    | true => match c.ri fid id with
      | some ri => match drawV c call n ops ri tm s with
        | some (tm', s') => some (.normal, tm', s')
        | none => none
      | none => none
  | .seq a b, tm, s => match codeV c call lf fid n a tm s with
    | some (.normal, tm', s') => codeV c call lf fid n b tm' s'
    | r => r
  | .cond x a b, tm, s => match ev c.ng tm x with
    | some (.bool true) => codeV c call lf fid n a tm s
    | some (.bool false) => codeV c call lf fid n b tm s
    | _ => none
  | .block id b, tm, s => match codeV c call lf fid n b tm s with
    | some (.exit j, tm', s') => cond (Nat.beq j id) (some (.normal, tm', s')) (some (.exit j, tm', s'))
    | r => r
  | .loop b, tm, s => iterV (codeV c call lf fid n b) lf tm s
  | .scope b, tm, s => codeV c call lf fid n b tm s
  | .exit id, tm, s => some (.exit id, tm, s)
  | .ret, tm, s => some (.ret, tm, s)
  | _, _, _ => none

def resV (c : Ctx) (tm : T V) (s : S) : List ResultVar → Option (List V)
  | [] => some []
  | r :: l => match (match r with
      | .tmp t => some ((tm.get t).getD .undef)
      | .cell a t => match (tm.get a).getD .undef, c.tt.get t with
        | .ptr b o, some i => match i.isAgg with
          | true => match s.cellsAt b o i.size with
            | some cs => some (.agg cs)
            | none => none
          | false => s.cellAt b o
        | _, _ => none : Option V) with
    | some v => match resV c tm s l with
      | some vs => some (v :: vs)
      | none => none
    | none => none
def packV : List V → V
  | [v] => v
  | vs => .tup vs

def callStep (c : Ctx) (lf : Nat) (call : CallF) : CallF := fun f args s =>
  match c.sum f args s with
  | some r => some r
  | none => match c.ft.get f with
    | none => none
    | some fn => match fn.body with
      | none => none
      | some code => cond (Nat.ble args.length fn.ntmps) (match codeV c call lf f fn.ntmps code (T.ofListFrom args 0 .leaf) s with
        | some (.normal, tm, s') | some (.ret, tm, s') => match resV c tm s' fn.results.toList with
          | some vs => some (packV vs, s')
          | none => none
        | _ => none) none
def callN (c : Ctx) (lf : Nat) : Nat → CallF
  | 0 => fun _ _ _ => none
  | n + 1 => callStep c lf (callN c lf n)

end Go.Ai
