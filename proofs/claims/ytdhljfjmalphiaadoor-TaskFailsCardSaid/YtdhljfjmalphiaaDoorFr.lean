/- The record of a new value, of any length up to 300, as a text: run. -/
import Derived.Test.YtdhljfjmalphiaaDoorMake
namespace Go.Proofs.YtdhljfjmalphiaaDoor.Tab
open Go.Ai
set_option maxRecDepth 100000

-- the record of a new value, of any length up to 300
noncomputable def recA (L : Nat) : V := .agg [.int .i64 9, .int .i64 9, .int .i64 0, .int .i64 0, .int .i64 (.ofNat L)]
noncomputable def recR (L : Nat) : Option (V × S) := callN (ctx none3 none3 none2) 1000 6 114 [recA L] (s0 (ctx none3 none3 none2).ng)
noncomputable def recL (L : Nat) : List Nat := match recR L with
  | some (.str l, _) => l
  | _ => []
def bytesB : List Nat → Bool
  | [] => true
  | b :: l => Nat.blt b 256 && bytesB l
noncomputable def recOk (L : Nat) : Bool := match recR L with
  | some (.str l, _) => bytesB l
  | _ => false
theorem rec_c0 : allN recOk (List.range' 0 20) = true := by kernel_rfl
theorem rec_c1 : allN recOk (List.range' 20 20) = true := by kernel_rfl
theorem rec_c2 : allN recOk (List.range' 40 20) = true := by kernel_rfl
theorem rec_c3 : allN recOk (List.range' 60 20) = true := by kernel_rfl
theorem rec_c4 : allN recOk (List.range' 80 20) = true := by kernel_rfl
theorem rec_c5 : allN recOk (List.range' 100 20) = true := by kernel_rfl
theorem rec_c6 : allN recOk (List.range' 120 20) = true := by kernel_rfl
theorem rec_c7 : allN recOk (List.range' 140 20) = true := by kernel_rfl
theorem rec_c8 : allN recOk (List.range' 160 20) = true := by kernel_rfl
theorem rec_c9 : allN recOk (List.range' 180 20) = true := by kernel_rfl
theorem rec_c10 : allN recOk (List.range' 200 20) = true := by kernel_rfl
theorem rec_c11 : allN recOk (List.range' 220 20) = true := by kernel_rfl
theorem rec_c12 : allN recOk (List.range' 240 20) = true := by kernel_rfl
theorem rec_c13 : allN recOk (List.range' 260 20) = true := by kernel_rfl
theorem rec_c14 : allN recOk (List.range' 280 20) = true := by kernel_rfl
theorem rec_c15 : allN recOk (List.range' 300 20) = true := by kernel_rfl
theorem rec_all {L : Nat} (h : L ≤ 300) : recOk L = true := by
  have key : ∀ (i : Nat), allN recOk (List.range' (i * 20) 20) = true → L / 20 = i → recOk L = true := by
    intro i hi e
    refine allN_ok hi L ?_
    rw [List.mem_range'_1]
    omega
  have hq : L / 20 < 16 := by omega
  by_cases e0 : L / 20 = 0
  · exact key 0 rec_c0 e0
  by_cases e1 : L / 20 = 1
  · exact key 1 rec_c1 e1
  by_cases e2 : L / 20 = 2
  · exact key 2 rec_c2 e2
  by_cases e3 : L / 20 = 3
  · exact key 3 rec_c3 e3
  by_cases e4 : L / 20 = 4
  · exact key 4 rec_c4 e4
  by_cases e5 : L / 20 = 5
  · exact key 5 rec_c5 e5
  by_cases e6 : L / 20 = 6
  · exact key 6 rec_c6 e6
  by_cases e7 : L / 20 = 7
  · exact key 7 rec_c7 e7
  by_cases e8 : L / 20 = 8
  · exact key 8 rec_c8 e8
  by_cases e9 : L / 20 = 9
  · exact key 9 rec_c9 e9
  by_cases e10 : L / 20 = 10
  · exact key 10 rec_c10 e10
  by_cases e11 : L / 20 = 11
  · exact key 11 rec_c11 e11
  by_cases e12 : L / 20 = 12
  · exact key 12 rec_c12 e12
  by_cases e13 : L / 20 = 13
  · exact key 13 rec_c13 e13
  by_cases e14 : L / 20 = 14
  · exact key 14 rec_c14 e14
  by_cases e15 : L / 20 = 15
  · exact key 15 rec_c15 e15
  omega
theorem bytesB_ok : ∀ {l : List Nat}, bytesB l = true → ∀ b ∈ l, b < 256
  | [], _, b, hb => by cases hb
  | x :: l, h, b, hb => by
    simp only [bytesB, Bool.and_eq_true, Nat.blt_eq] at h
    cases hb with
    | head => exact h.1
    | tail _ hb => exact bytesB_ok h.2 b hb
theorem rec_run {L : Nat} (h : L ≤ 300) : ∃ s1, recR L = some (.str (recL L), s1) ∧ ∀ b ∈ recL L, b < 256 := by
  have := rec_all h
  unfold recOk at this
  unfold recL
  cases hr : recR L with
  | none => simp [hr] at this
  | some p =>
    obtain ⟨v, s1⟩ := p
    cases v <;> simp [hr] at this
    exact ⟨s1, rfl, bytesB_ok this⟩
end Go.Proofs.YtdhljfjmalphiaaDoor.Tab
