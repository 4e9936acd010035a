/- The summaries and the oracle of TaskFails. -/
import Derived.Test.YtdhljfjmalphiaaDoorFa
namespace Go.Proofs.YtdhljfjmalphiaaDoor.Tab
open Go.Ai
set_option maxRecDepth 100000

-- the rows of the code
noncomputable def cauN (k i j : Nat) : Nat := if i < k then (if i = j then 1 else 0) else tabN (255 - tabN (510 + (i ^^^ j)))
noncomputable def eqBytes : List V → List Nat → Bool
  | [], [] => true
  | .int .u8 (.ofNat x) :: l, y :: m => Nat.beq x y && eqBytes l m
  | _, _ => false
theorem eqBytes_ok : ∀ {l : List V} {m : List Nat}, eqBytes l m = true → l = m.map byteV
  | [], [], _ => rfl
  | [], _ :: _, h => by simp [eqBytes] at h
  | x :: l, m, h => by
    unfold eqBytes at h
    split at h
    · rename_i heq; cases heq
    · rename_i x' l' y m' heq
      cases heq
      simp only [Bool.and_eq_true, Nat.beq_eq] at h
      rw [eqBytes_ok h.2, h.1]; rfl
    · cases h
noncomputable def isByte (o : Option V) (y : Nat) : Bool := match o with
  | some (.int .u8 (.ofNat x)) => Nat.beq x y
  | _ => false
theorem isByte_ok {o : Option V} {y : Nat} (h : isByte o y = true) : o = some (byteV y) := by
  unfold isByte at h
  split at h
  · rw [Nat.eq_of_beq_eq_true h]; rfl
  · cases h
noncomputable def isInt (o : Option V) (y : Nat) : Bool := match o with
  | some (.int .i64 (.ofNat x)) => Nat.beq x y
  | _ => false
theorem isInt_ok {o : Option V} {y : Nat} (h : isInt o y = true) : o = some (.int .i64 (.ofNat y)) := by
  unfold isInt at h
  split at h
  · rw [Nat.eq_of_beq_eq_true h]
  · cases h
noncomputable def rowOk (s : S) (k i rr : Nat) : Bool := match s.cellAt rr i with
  | some (.sl b o len _ esz _) => Nat.beq o 0 && Nat.beq len k && Nat.beq esz 1 && allN (fun j => isByte (s.cellAt b j) (cauN k i j)) (List.range k)
  | _ => false
/-- Does a code of k and n fragments lie there? -/
noncomputable def codeB (s : S) (bc k n : Nat) : Bool := match s.h.get bc with
  | some (.cells _ _ cs) => isInt (nth cs 0) k && isInt (nth cs 1) n && (match sub cs 2 766 with | some l => eqBytes l makeL | none => false) &&
    (match nth cs 768 with
     | some (.sl rr o len _ esz _) => Nat.beq o 0 && Nat.beq len n && Nat.beq esz 1 && allN (fun i => rowOk s k i rr) (List.range n)
     | _ => false)
  | _ => false

variable (kb big : Bool) (a b n r : Nat)
noncomputable def sumF : CallF := fun f args s => match sumMake f args s with
  | some x => some x
  | none => match args with
    | [] => cond (Nat.beq f 8) (some (.bool true, s)) none
    | [.sstr i] => cond (Nat.beq i 0) (cond (Nat.beq f 7) (some (.bool kb, s)) (cond (Nat.beq f 48 && kb) (some (.sint .u32 3, s)) none)) none
    | [.sint .i64 i, .int .i64 (.ofNat lo), .int .i64 (.ofNat hi)] => cond (Nat.beq f 12) (match i with
      | 0 => cond (Nat.beq lo 1 && Nat.beq hi 4) (some (.int .i64 (.ofNat a), s)) none
      | 1 => cond (Nat.beq lo 0 && Nat.beq hi 3) (some (.int .i64 (.ofNat b), s)) none
      | 2 => cond (Nat.beq lo 0 && Nat.beq hi (a + b)) (some (.int .i64 (.ofNat n), s)) none
      | _ => none) none
    | [.ptr bc 0, .sstr 1] => cond (Nat.beq f 81 && !big && codeB s bc a (a + b)) (some (.sl (s.next + 2) 0 (a + b) (a + b) 1 true,
        { h := s.h.set (s.next + 2) (.cells true .no (rowV (a + b) fun i => .sstr (20 + i))), next := s.next + 3 + (a + b) })) none
    | [.agg [.int .i64 (.ofNat p), .int .i64 (.ofNat c), .int .i64 (.ofNat fl), .int .i64 (.ofNat de), .sint .i64 10]] =>
      cond (Nat.beq f 114 && !big && Nat.beq p 9 && Nat.beq c 9 && Nat.beq fl 0 && Nat.beq de 0) (some (.sstr 30, s)) none
    | _ => none
noncomputable def orcF : OrcF := fun o args => match o, args with
  | .binOp .rem _ _ _ _, [.sint .i64 i, .int .i64 (.ofNat m)] => cond (Nat.beq i 4 && Nat.beq m (a + b) && kb) (some (.int .i64 (.ofNat r))) none
  | .binOp .gtr _ _ _ _, [.sint .i64 i, .int .i64 (.ofNat m)] => cond (Nat.beq i 10 && Nat.beq m 300) (some (.bool big)) none
  | .convert x y _, [.sint .u32 i] => cond (Nat.beq i 3 && Nat.beq x 105 && Nat.beq y 3 && kb) (some (.sint .i64 4)) none
  | .call cl, [.sstr i] => match cl.callee with
    | .builtin .len => match cl.argTypes.toList with
      | [t] => cond (Nat.beq i 1 && Nat.beq t 9) (some (.sint .i64 10)) none
      | _ => none
    | _ => none
  | _, _ => none
noncomputable def runF : Bool := gives (callN (ctx (sumF kb big a b n) none3 (orcF kb big a b r)) 1000 60 4 [.sint .i64 0, .sint .i64 1, .sstr 0, .sstr 1, .sint .i64 2] (s0 (ctx none3 none3 none2).ng)) (.bool true)
end Go.Proofs.YtdhljfjmalphiaaDoor.Tab
