/- What is known in TaskFails of what is not known. -/
import Derived.Test.YtdhljfjmalphiaaDoorRs
import Derived.Test.YtdhljfjmalphiaaDoorOrc
import Derived.Test.YtdhljfjmalphiaaDoorFr
import Derived.Test.YtdhljfjmalphiaaDoorAiForget
namespace Go.Proofs.YtdhljfjmalphiaaDoor.Tab
open Go.Ai
set_option maxRecDepth 100000

-- Within
def withinN (n lo hi : Int) : Int := if n.tmod (hi - lo + 1) < 0 then lo + (n.tmod (hi - lo + 1) + hi - lo + 1) else lo + n.tmod (hi - lo + 1)
variable {sum ext : CallF} {orc : OrcF}
theorem within_run (lf d : Nat) (n : Int) (hi lo : Nat) (h : lo ≤ hi) (hh : hi < 1000000) (s : S) (hs : ∀ a s, sum 12 a s = none) :
    callN (ctx sum ext orc) lf (d + 1) 12 [.int .i64 n, .int .i64 (Int.ofNat lo), .int .i64 (Int.ofNat hi)] s = some (.int .i64 (withinN n lo hi), s) := by
  have hft : (ctx sum ext orc).ft.get 12 = some Tryd.f12 := by kernel_rfl
  have hsum : ∀ a s, (ctx sum ext orc).sum 12 a s = none := hs
  simp only [callN, callStep, hsum, hft]
  rw [show Tryd.f12.body = some _ from rfl]
  simp only [Tryd.f12, List.length_cons, List.length_nil, show Nat.ble (0 + 1 + 1 + 1) 24 = true from rfl, cond_true, T.ofListFrom]
  have wr : ∀ z : Int, -9000000000 < z → z < 9000000000 → wrapF .i64 z = z := by
    intro z h1 h2
    rw [wrapF_eq]
    simp [IntKind.wrap, IntKind.bits, IntKind.signed]
    omega
  have w1 : wrapF .i64 (Int.ofNat hi - Int.ofNat lo) = Int.ofNat hi - Int.ofNat lo := wr _ (by simp; omega) (by simp; omega)
  have w2 : wrapF .i64 (Int.ofNat hi - Int.ofNat lo + 1) = Int.ofNat hi - Int.ofNat lo + 1 := wr _ (by simp; omega) (by simp; omega)
  have hz : eqF (Int.ofNat hi - Int.ofNat lo + 1) 0 = false := by rw [eqF_eq]; simp; omega
  have b1 := Int.tmod_lt_of_pos n (b := Int.ofNat hi - Int.ofNat lo + 1) (by simp; omega)
  have b2 := Int.lt_tmod_of_pos n (b := Int.ofNat hi - Int.ofNat lo + 1) (by simp; omega)
  have hdef : withinN n lo hi = if n.tmod (Int.ofNat hi - Int.ofNat lo + 1) < 0 then Int.ofNat lo + (n.tmod (Int.ofNat hi - Int.ofNat lo + 1) + Int.ofNat hi - Int.ofNat lo + 1) else Int.ofNat lo + n.tmod (Int.ofNat hi - Int.ofNat lo + 1) := rfl
  generalize hqd : n.tmod (Int.ofNat hi - Int.ofNat lo + 1) = q at b1 b2 hdef
  by_cases hq : q < 0
  · have h1 : ltF q 0 = true := by rw [ltF_eq]; simpa using hq
    simp at b1 b2
    have w3 : wrapF .i64 (q + Int.ofNat hi) = q + Int.ofNat hi := wr _ (by simp; omega) (by simp; omega)
    have w4 : wrapF .i64 (q + Int.ofNat hi - Int.ofNat lo) = q + Int.ofNat hi - Int.ofNat lo := wr _ (by simp; omega) (by simp; omega)
    have w5 : wrapF .i64 (q + Int.ofNat hi - Int.ofNat lo + 1) = q + Int.ofNat hi - Int.ofNat lo + 1 := wr _ (by simp; omega) (by simp; omega)
    have w6 : wrapF .i64 (Int.ofNat lo + (q + Int.ofNat hi - Int.ofNat lo + 1)) = Int.ofNat lo + (q + Int.ofNat hi - Int.ofNat lo + 1) := wr _ (by simp; omega) (by simp; omega)
    rw [if_pos hq] at hdef
    simp only [codeV_ret, codeV_region, codeV_seq, codeV_cond, seqV, wantedV, stepV, clsOf, pureV, pureV0, ev, toV, toV0, putT_eq, T.get_set, binV, intBin, kindEq, Option.getD_some, reduceIte, cond_true, cond_false, Nat.reduceLT, Nat.reduceEqDiff, T.get_leaf, w1, w2, hz, hqd, h1, w3, w4, w5, w6, resV, packV, Nat.reduceAdd, Nat.zero_add]
    rw [hdef]
  · have h1 : ltF q 0 = false := by rw [ltF_eq]; simpa using hq
    simp at b1 b2
    have w6 : wrapF .i64 (Int.ofNat lo + q) = Int.ofNat lo + q := wr _ (by simp; omega) (by simp; omega)
    rw [if_neg hq] at hdef
    simp only [codeV_skip, codeV_ret, codeV_region, codeV_seq, codeV_cond, seqV, wantedV, stepV, clsOf, pureV, pureV0, ev, toV, toV0, putT_eq, T.get_set, binV, intBin, kindEq, Option.getD_some, reduceIte, cond_true, cond_false, Nat.reduceLT, Nat.reduceEqDiff, T.get_leaf, w1, w2, hz, hqd, h1, w6, resV, packV, Nat.reduceAdd, Nat.zero_add]
    rw [hdef]
theorem within_range (n : Int) (lo hi : Nat) (h : lo ≤ hi) : ∃ m : Nat, withinN n lo hi = Int.ofNat m ∧ lo ≤ m ∧ m ≤ hi := by
  have b1 := Int.tmod_lt_of_pos n (b := (hi : Int) - lo + 1) (by omega)
  have b2 := Int.lt_tmod_of_pos n (b := (hi : Int) - lo + 1) (by omega)
  unfold withinN
  generalize n.tmod ((hi : Int) - lo + 1) = q at b1 b2
  by_cases hq : q < 0
  · rw [if_pos hq]
    exact ⟨((lo : Int) + (q + hi - lo + 1)).toNat, by simp; omega, by omega, by omega⟩
  · rw [if_neg hq]
    exact ⟨((lo : Int) + q).toNat, by simp; omega, by omega, by omega⟩

/-- A string of bytes. -/
def ofNats (l : List Nat) : ByteArray := ⟨(l.map UInt8.ofNat).toArray⟩
theorem nats_ofNats {l : List Nat} (h : ∀ b ∈ l, b < 256) : nats (ofNats l) = l := by
  unfold nats ofNats
  simp only [List.map_map]
  conv => rhs; rw [← List.map_id l]
  apply List.map_congr_left
  intro b hb
  simp [Function.comp, UInt8.toNat_ofNat', Nat.mod_eq_of_lt (h b hb)]
end Go.Proofs.YtdhljfjmalphiaaDoor.Tab
