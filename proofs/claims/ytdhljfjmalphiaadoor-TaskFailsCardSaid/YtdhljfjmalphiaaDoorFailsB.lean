/- TaskFails: keys that may not be, values that are too long. -/
import Derived.Test.YtdhljfjmalphiaaDoorFails
namespace Go.Proofs.YtdhljfjmalphiaaDoor.Tab
open Go.Ai
set_option maxRecDepth 100000
theorem g_1_0 (n r : Nat) : runF false false 1 0 n r = true := by kernel_rfl
theorem h_1_0 (n r : Nat) : runF false true 1 0 n r = true := by kernel_rfl
theorem i_1_0 (n r : Nat) : runF true true 1 0 n r = true := by kernel_rfl
theorem g_1_1 (n r : Nat) : runF false false 1 1 n r = true := by kernel_rfl
theorem h_1_1 (n r : Nat) : runF false true 1 1 n r = true := by kernel_rfl
theorem i_1_1 (n r : Nat) : runF true true 1 1 n r = true := by kernel_rfl
theorem g_1_2 (n r : Nat) : runF false false 1 2 n r = true := by kernel_rfl
theorem h_1_2 (n r : Nat) : runF false true 1 2 n r = true := by kernel_rfl
theorem i_1_2 (n r : Nat) : runF true true 1 2 n r = true := by kernel_rfl
theorem g_1_3 (n r : Nat) : runF false false 1 3 n r = true := by kernel_rfl
theorem h_1_3 (n r : Nat) : runF false true 1 3 n r = true := by kernel_rfl
theorem i_1_3 (n r : Nat) : runF true true 1 3 n r = true := by kernel_rfl
theorem g_2_0 (n r : Nat) : runF false false 2 0 n r = true := by kernel_rfl
theorem h_2_0 (n r : Nat) : runF false true 2 0 n r = true := by kernel_rfl
theorem i_2_0 (n r : Nat) : runF true true 2 0 n r = true := by kernel_rfl
theorem g_2_1 (n r : Nat) : runF false false 2 1 n r = true := by kernel_rfl
theorem h_2_1 (n r : Nat) : runF false true 2 1 n r = true := by kernel_rfl
theorem i_2_1 (n r : Nat) : runF true true 2 1 n r = true := by kernel_rfl
theorem g_2_2 (n r : Nat) : runF false false 2 2 n r = true := by kernel_rfl
theorem h_2_2 (n r : Nat) : runF false true 2 2 n r = true := by kernel_rfl
theorem i_2_2 (n r : Nat) : runF true true 2 2 n r = true := by kernel_rfl
theorem g_2_3 (n r : Nat) : runF false false 2 3 n r = true := by kernel_rfl
theorem h_2_3 (n r : Nat) : runF false true 2 3 n r = true := by kernel_rfl
theorem i_2_3 (n r : Nat) : runF true true 2 3 n r = true := by kernel_rfl
theorem g_3_0 (n r : Nat) : runF false false 3 0 n r = true := by kernel_rfl
theorem h_3_0 (n r : Nat) : runF false true 3 0 n r = true := by kernel_rfl
theorem i_3_0 (n r : Nat) : runF true true 3 0 n r = true := by kernel_rfl
theorem g_3_1 (n r : Nat) : runF false false 3 1 n r = true := by kernel_rfl
theorem h_3_1 (n r : Nat) : runF false true 3 1 n r = true := by kernel_rfl
theorem i_3_1 (n r : Nat) : runF true true 3 1 n r = true := by kernel_rfl
theorem g_3_2 (n r : Nat) : runF false false 3 2 n r = true := by kernel_rfl
theorem h_3_2 (n r : Nat) : runF false true 3 2 n r = true := by kernel_rfl
theorem i_3_2 (n r : Nat) : runF true true 3 2 n r = true := by kernel_rfl
theorem g_3_3 (n r : Nat) : runF false false 3 3 n r = true := by kernel_rfl
theorem h_3_3 (n r : Nat) : runF false true 3 3 n r = true := by kernel_rfl
theorem i_3_3 (n r : Nat) : runF true true 3 3 n r = true := by kernel_rfl
theorem g_4_0 (n r : Nat) : runF false false 4 0 n r = true := by kernel_rfl
theorem h_4_0 (n r : Nat) : runF false true 4 0 n r = true := by kernel_rfl
theorem i_4_0 (n r : Nat) : runF true true 4 0 n r = true := by kernel_rfl
theorem g_4_1 (n r : Nat) : runF false false 4 1 n r = true := by kernel_rfl
theorem h_4_1 (n r : Nat) : runF false true 4 1 n r = true := by kernel_rfl
theorem i_4_1 (n r : Nat) : runF true true 4 1 n r = true := by kernel_rfl
theorem g_4_2 (n r : Nat) : runF false false 4 2 n r = true := by kernel_rfl
theorem h_4_2 (n r : Nat) : runF false true 4 2 n r = true := by kernel_rfl
theorem i_4_2 (n r : Nat) : runF true true 4 2 n r = true := by kernel_rfl
theorem g_4_3 (n r : Nat) : runF false false 4 3 n r = true := by kernel_rfl
theorem h_4_3 (n r : Nat) : runF false true 4 3 n r = true := by kernel_rfl
theorem i_4_3 (n r : Nat) : runF true true 4 3 n r = true := by kernel_rfl
end Go.Proofs.YtdhljfjmalphiaaDoor.Tab
