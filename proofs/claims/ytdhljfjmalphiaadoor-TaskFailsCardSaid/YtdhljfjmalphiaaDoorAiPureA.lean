/- Numbers, strings, equality: the evaluator's answer is the model's. -/
import Derived.Test.YtdhljfjmalphiaaDoorAiPure
import Derived.Laws.Strings
namespace Go.Ai
section
variable {P : Program} {c : Ctx} {ng : Nat} {pr : Prt} {w0 : World} {σ : Sg} {s : S} {w : World}

theorem ofInt_nat (k : IntKind) (a : Nat) (h : a < lim k) : (BitVec.ofInt k.bits (a : Int)).toNat = a := by
  rw [BitVec.toNat_ofInt]
  cases k <;> simp [lim] at h <;> simp [IntKind.bits] <;> omega
theorem lim_le (k : IntKind) : lim k ≤ 2 ^ k.bits := by cases k <;> simp [lim, IntKind.bits]
theorem lim_pow (k : IntKind) : ∃ n, lim k = 2 ^ n := by
  cases k
  · exact ⟨7, rfl⟩
  · exact ⟨15, rfl⟩
  · exact ⟨31, rfl⟩
  · exact ⟨63, rfl⟩
  · exact ⟨8, rfl⟩
  · exact ⟨16, rfl⟩
  · exact ⟨32, rfl⟩
  · exact ⟨64, rfl⟩
theorem bitsSlow_ok {op : BinOp} {k : IntKind} {x y n : Int} (h : bitsSlow op k x y = some n) : (Op.intBits op k x y).run P w = .ok (.int k n) w := by
  unfold bitsSlow at h
  cases op <;> simp only [Option.some.injEq] at h <;> first | (subst h; rfl) | cases h
theorem bitsV_ok {op : BinOp} {k : IntKind} {x y n : Int} (h : bitsV op k x y = some n) : (Op.intBits op k x y).run P w = .ok (.int k n) w := by
  unfold bitsV at h
  split at h
  case h_2 => exact bitsSlow_ok h
  rename_i a b
  cases hc : (Nat.blt a (lim k) && Nat.blt b (lim k)) with
  | false => simp only [hc, cond_false] at h; exact bitsSlow_ok h
  | true =>
    simp only [hc, cond_true] at h
    simp only [Bool.and_eq_true, Nat.blt_eq] at hc
    obtain ⟨e, he⟩ := lim_pow k
    have hA := ofInt_nat k a hc.1
    have hB := ofInt_nat k b hc.2
    have hor : a ||| b < lim k := by rw [he] at hc ⊢; exact Nat.or_lt_two_pow hc.1 hc.2
    have hxor : a ^^^ b < lim k := by rw [he] at hc ⊢; exact Nat.xor_lt_two_pow hc.1 hc.2
    have hand : a &&& b < lim k := Nat.lt_of_le_of_lt Nat.and_le_left hc.1
    split at h
    · simp only [Option.some.injEq] at h; subst h
      simp only [Op.intBits, Int.ofNat_eq_natCast, BitVec.toNat_and, hA, hB]
      rw [wrap_self (by omega) (by omega)]; rfl
    · simp only [Option.some.injEq] at h; subst h
      simp only [Op.intBits, Int.ofNat_eq_natCast, BitVec.toNat_or, hA, hB]
      rw [wrap_self (by omega) (by omega)]; rfl
    · simp only [Option.some.injEq] at h; subst h
      simp only [Op.intBits, Int.ofNat_eq_natCast, BitVec.toNat_xor, hA, hB]
      rw [wrap_self (by omega) (by omega)]; rfl
    · exact bitsSlow_ok h

theorem shiftV_ok {op : BinOp} {k yk : IntKind} {x y n : Int} (h : shiftV op k x y = some n) : (Op.shift op k x yk y).run P w = .ok (.int k n) w := by
  unfold shiftV at h
  split at h
  · cases h
  rename_i y
  unfold Op.shift
  rw [if_neg (by simp)]
  split at h
  · simp only [Option.some.injEq] at h; subst h; rw [wrapF_eq]; rfl
  · simp only [Option.some.injEq] at h; subst h; rfl
  · cases h

theorem leF (x y : Int) : (!decide (y < x)) = decide (x ≤ y) := by
  by_cases h : y < x
  · have : ¬ x ≤ y := by omega
    simp [h, this]
  · have : x ≤ y := by omega
    simp [h, this]
theorem intBin_ok [Val] {op : BinOp} {k : IntKind} {x y : Int} {v : V} {t : Nat} (h : intBin op k x y = some v) (h1 : op ≠ .shl) (h2 : op ≠ .shr) :
    ∃ u, (binOp op t (.int k x) (.int k y)).run P w = .ok u w ∧ VR σ v u := by
  unfold intBin at h
  cases op <;> simp only [Option.some.injEq] at h
  case add => subst h; exact ⟨.int k (k.wrap (x + y)), by simp [binOp, Op.intArith], by simp [VR, wrapF_eq]⟩
  case sub => subst h; exact ⟨.int k (k.wrap (x - y)), by simp [binOp, Op.intArith], by simp [VR, wrapF_eq]⟩
  case mul => subst h; exact ⟨.int k (k.wrap (x * y)), by simp [binOp, Op.intArith], by simp [VR, wrapF_eq]⟩
  case quo =>
    rw [eqF_eq] at h
    cases hy : (y == 0) with
    | true => simp [hy] at h
    | false =>
      simp only [hy, cond_false, Option.some.injEq] at h
      subst h
      have hy' : y ≠ 0 := by simpa using hy
      refine ⟨.int k (k.wrap (x.tdiv y)), ?_, by simp [VR, wrapF_eq]⟩
      simp [binOp, Op.intDiv, hy']
  case rem =>
    rw [eqF_eq] at h
    cases hy : (y == 0) with
    | true => simp [hy] at h
    | false =>
      simp only [hy, cond_false, Option.some.injEq] at h
      subst h
      have hy' : y ≠ 0 := by simpa using hy
      refine ⟨.int k (x.tmod y), ?_, by simp [VR]⟩
      simp [binOp, Op.intDiv, hy']
  case eql => subst h; exact ⟨.bool (x == y), by simp [binOp, Op.intCmp], by simp [VR, eqF_eq]⟩
  case neq => subst h; exact ⟨.bool (x != y), by simp [binOp, Op.intCmp], by simp [VR, eqF_eq]; rfl⟩
  case lss => subst h; exact ⟨.bool (x < y), by simp [binOp, Op.intCmp], by simp [VR, ltF_eq]⟩
  case leq => subst h; exact ⟨.bool (x ≤ y), by simp [binOp, Op.intCmp], by simp only [VR, ltF_eq, leF]⟩
  case gtr => subst h; exact ⟨.bool (x > y), by simp [binOp, Op.intCmp], by simp [VR, ltF_eq]⟩
  case geq => subst h; exact ⟨.bool (x ≥ y), by simp [binOp, Op.intCmp], by simp only [VR, ltF_eq, leF]⟩
  case shl => exact absurd rfl h1
  case shr => exact absurd rfl h2
  all_goals
    split at h
    · rename_i n hn
      simp only [Option.some.injEq] at h; subst h
      refine ⟨.int k n, ?_, by simp [VR]⟩
      have := bitsV_ok (P := P) (w := w) hn
      simpa [binOp] using this
    · cases h

theorem nats_length (s : ByteArray) : (nats s).length = s.size := by
  unfold nats; rw [List.length_map]; rfl
theorem nats_append (a b : ByteArray) : nats (a ++ b) = nats a ++ nats b := by simp [nats]
theorem nats_beq (a b : ByteArray) : (a.data.toList == b.data.toList) = strEq (nats a) (nats b) := by
  rw [strEq_eq, Bool.eq_iff_iff]
  simp only [beq_iff_eq, decide_eq_true_eq]
  constructor
  · intro h; simp [nats, h]
  · intro h; rw [nats_inj h]
theorem less_map : ∀ a b : List UInt8, Op.bytesLess a b = strLt (a.map UInt8.toNat) (b.map UInt8.toNat)
  | a, [] => by cases a <;> rfl
  | [], _ :: _ => rfl
  | a :: x, b :: y => by
    simp only [Op.bytesLess, List.map_cons, strLt, less_map x y]
    congr 1
    · rw [Bool.eq_iff_iff, Nat.blt_eq]; simp [UInt8.lt_iff_toNat_lt]
    · congr 1
      rw [Bool.eq_iff_iff, Nat.beq_eq]; simp [← UInt8.toNat_inj]
theorem strBin_ok [Val] {op : BinOp} {x y : ByteArray} {v : V} (h : strBin op (nats x) (nats y) = some v) :
    ∃ u, (Op.stringOp op x y).run P w = .ok u w ∧ VR σ v u := by
  have hlt : Op.bytesLess x.toList y.toList = strLt (nats x) (nats y) := by rw [ByteArray.toList_eq, ByteArray.toList_eq]; exact less_map _ _
  have heq : (x.toList == y.toList) = strEq (nats x) (nats y) := by rw [ByteArray.toList_eq, ByteArray.toList_eq]; exact nats_beq x y
  unfold strBin at h
  cases op <;> simp only [Option.some.injEq] at h
  case add =>
    cases hc : Nat.blt ((nats x).length + (nats y).length) maxStr with
    | false => rw [hc] at h; cases h
    | true =>
      rw [hc] at h
      simp only [cond_true, Option.some.injEq] at h
      subst h
      rw [Nat.blt_eq, nats_length, nats_length] at hc
      refine ⟨.string (x ++ y), ?_, by simp only [VR]; exact ⟨_, rfl, nats_append x y⟩⟩
      unfold Op.stringOp
      simp only [Sem.run_ite]
      rw [if_neg (by simp only [maxStr] at hc; simp [IntKind.max, IntKind.signed, IntKind.bits]; omega)]
      rfl
  case eql => subst h; exact ⟨.bool (x.toList == y.toList), rfl, by simp only [VR, heq]⟩
  case neq => subst h; exact ⟨.bool (!(x.toList == y.toList)), rfl, by simp only [VR, heq]⟩
  case lss => subst h; exact ⟨.bool (Op.bytesLess x.toList y.toList), rfl, by simp only [VR, hlt]⟩
  case leq => subst h; exact ⟨.bool (Op.bytesLess x.toList y.toList || x.toList == y.toList), rfl, by simp only [VR, hlt, heq]⟩
  case gtr => subst h; exact ⟨.bool (!(Op.bytesLess x.toList y.toList || x.toList == y.toList)), rfl, by simp only [VR, hlt, heq]⟩
  case geq => subst h; exact ⟨.bool (!Op.bytesLess x.toList y.toList), rfl, by simp only [VR, hlt]⟩
  all_goals cases h

theorem unV_ok [Val] {op : UnOp} {x v : V} {u : Value} (h : unV op x = some v) (hx : VR σ x u) : ∃ y, (Op.unary op u).run P w = .ok y w ∧ VR σ v y := by
  unfold unV at h
  split at h
  · simp only [VR] at hx; subst hx
    simp only [Option.some.injEq] at h; subst h
    exact ⟨_, rfl, by simp [VR, wrapF_eq]⟩
  · simp only [VR] at hx; subst hx
    split at h
    · rename_i r hr
      simp only [Option.some.injEq] at h; subst h
      exact ⟨.int _ r, bitsV_ok hr, by simp [VR]⟩
    · cases h
  · simp only [VR] at hx; subst hx
    simp only [Option.some.injEq] at h; subst h
    exact ⟨_, rfl, by simp [VR]⟩
  · cases h
end
end Go.Ai
