/- Runs of TaskFails, by how many fragments there are. -/
import Derived.Test.YtdhljfjmalphiaaDoorFails
namespace Go.Proofs.YtdhljfjmalphiaaDoor.Tab
open Go.Ai
set_option maxRecDepth 100000
theorem f_4_2_0_0 : runF true false 4 2 0 0 = true := by kernel_rfl
theorem f_4_2_0_1 : runF true false 4 2 1 0 = true := by kernel_rfl
theorem f_4_2_0_2 : runF true false 4 2 2 0 = true := by kernel_rfl
theorem f_4_2_0_3 : runF true false 4 2 3 0 = true := by kernel_rfl
theorem f_4_2_0_4 : runF true false 4 2 4 0 = true := by kernel_rfl
theorem f_4_2_0_5 : runF true false 4 2 5 0 = true := by kernel_rfl
theorem f_4_2_0_6 : runF true false 4 2 6 0 = true := by kernel_rfl
theorem f_4_2_1_0 : runF true false 4 2 0 1 = true := by kernel_rfl
theorem f_4_2_1_1 : runF true false 4 2 1 1 = true := by kernel_rfl
theorem f_4_2_1_2 : runF true false 4 2 2 1 = true := by kernel_rfl
theorem f_4_2_1_3 : runF true false 4 2 3 1 = true := by kernel_rfl
theorem f_4_2_1_4 : runF true false 4 2 4 1 = true := by kernel_rfl
theorem f_4_2_1_5 : runF true false 4 2 5 1 = true := by kernel_rfl
theorem f_4_2_1_6 : runF true false 4 2 6 1 = true := by kernel_rfl
theorem f_4_2_2_0 : runF true false 4 2 0 2 = true := by kernel_rfl
theorem f_4_2_2_1 : runF true false 4 2 1 2 = true := by kernel_rfl
theorem f_4_2_2_2 : runF true false 4 2 2 2 = true := by kernel_rfl
theorem f_4_2_2_3 : runF true false 4 2 3 2 = true := by kernel_rfl
theorem f_4_2_2_4 : runF true false 4 2 4 2 = true := by kernel_rfl
theorem f_4_2_2_5 : runF true false 4 2 5 2 = true := by kernel_rfl
theorem f_4_2_2_6 : runF true false 4 2 6 2 = true := by kernel_rfl
theorem f_4_2_3_0 : runF true false 4 2 0 3 = true := by kernel_rfl
theorem f_4_2_3_1 : runF true false 4 2 1 3 = true := by kernel_rfl
theorem f_4_2_3_2 : runF true false 4 2 2 3 = true := by kernel_rfl
theorem f_4_2_3_3 : runF true false 4 2 3 3 = true := by kernel_rfl
theorem f_4_2_3_4 : runF true false 4 2 4 3 = true := by kernel_rfl
theorem f_4_2_3_5 : runF true false 4 2 5 3 = true := by kernel_rfl
theorem f_4_2_3_6 : runF true false 4 2 6 3 = true := by kernel_rfl
theorem f_4_2_4_0 : runF true false 4 2 0 4 = true := by kernel_rfl
theorem f_4_2_4_1 : runF true false 4 2 1 4 = true := by kernel_rfl
theorem f_4_2_4_2 : runF true false 4 2 2 4 = true := by kernel_rfl
theorem f_4_2_4_3 : runF true false 4 2 3 4 = true := by kernel_rfl
theorem f_4_2_4_4 : runF true false 4 2 4 4 = true := by kernel_rfl
theorem f_4_2_4_5 : runF true false 4 2 5 4 = true := by kernel_rfl
theorem f_4_2_4_6 : runF true false 4 2 6 4 = true := by kernel_rfl
theorem f_4_2_5_0 : runF true false 4 2 0 5 = true := by kernel_rfl
theorem f_4_2_5_1 : runF true false 4 2 1 5 = true := by kernel_rfl
theorem f_4_2_5_2 : runF true false 4 2 2 5 = true := by kernel_rfl
theorem f_4_2_5_3 : runF true false 4 2 3 5 = true := by kernel_rfl
theorem f_4_2_5_4 : runF true false 4 2 4 5 = true := by kernel_rfl
theorem f_4_2_5_5 : runF true false 4 2 5 5 = true := by kernel_rfl
theorem f_4_2_5_6 : runF true false 4 2 6 5 = true := by kernel_rfl
theorem fa_4_2 : ∀ r n, r < 6 → n ≤ 6 → runF true false 4 2 n r = true := by
  intro r n hr hn
  by_cases r0 : r = 0
  · subst r0
    by_cases k0 : n = 0
    · subst k0; exact f_4_2_0_0
    by_cases k1 : n = 1
    · subst k1; exact f_4_2_0_1
    by_cases k2 : n = 2
    · subst k2; exact f_4_2_0_2
    by_cases k3 : n = 3
    · subst k3; exact f_4_2_0_3
    by_cases k4 : n = 4
    · subst k4; exact f_4_2_0_4
    by_cases k5 : n = 5
    · subst k5; exact f_4_2_0_5
    by_cases k6 : n = 6
    · subst k6; exact f_4_2_0_6
    omega
  by_cases r1 : r = 1
  · subst r1
    by_cases k0 : n = 0
    · subst k0; exact f_4_2_1_0
    by_cases k1 : n = 1
    · subst k1; exact f_4_2_1_1
    by_cases k2 : n = 2
    · subst k2; exact f_4_2_1_2
    by_cases k3 : n = 3
    · subst k3; exact f_4_2_1_3
    by_cases k4 : n = 4
    · subst k4; exact f_4_2_1_4
    by_cases k5 : n = 5
    · subst k5; exact f_4_2_1_5
    by_cases k6 : n = 6
    · subst k6; exact f_4_2_1_6
    omega
  by_cases r2 : r = 2
  · subst r2
    by_cases k0 : n = 0
    · subst k0; exact f_4_2_2_0
    by_cases k1 : n = 1
    · subst k1; exact f_4_2_2_1
    by_cases k2 : n = 2
    · subst k2; exact f_4_2_2_2
    by_cases k3 : n = 3
    · subst k3; exact f_4_2_2_3
    by_cases k4 : n = 4
    · subst k4; exact f_4_2_2_4
    by_cases k5 : n = 5
    · subst k5; exact f_4_2_2_5
    by_cases k6 : n = 6
    · subst k6; exact f_4_2_2_6
    omega
  by_cases r3 : r = 3
  · subst r3
    by_cases k0 : n = 0
    · subst k0; exact f_4_2_3_0
    by_cases k1 : n = 1
    · subst k1; exact f_4_2_3_1
    by_cases k2 : n = 2
    · subst k2; exact f_4_2_3_2
    by_cases k3 : n = 3
    · subst k3; exact f_4_2_3_3
    by_cases k4 : n = 4
    · subst k4; exact f_4_2_3_4
    by_cases k5 : n = 5
    · subst k5; exact f_4_2_3_5
    by_cases k6 : n = 6
    · subst k6; exact f_4_2_3_6
    omega
  by_cases r4 : r = 4
  · subst r4
    by_cases k0 : n = 0
    · subst k0; exact f_4_2_4_0
    by_cases k1 : n = 1
    · subst k1; exact f_4_2_4_1
    by_cases k2 : n = 2
    · subst k2; exact f_4_2_4_2
    by_cases k3 : n = 3
    · subst k3; exact f_4_2_4_3
    by_cases k4 : n = 4
    · subst k4; exact f_4_2_4_4
    by_cases k5 : n = 5
    · subst k5; exact f_4_2_4_5
    by_cases k6 : n = 6
    · subst k6; exact f_4_2_4_6
    omega
  by_cases r5 : r = 5
  · subst r5
    by_cases k0 : n = 0
    · subst k0; exact f_4_2_5_0
    by_cases k1 : n = 1
    · subst k1; exact f_4_2_5_1
    by_cases k2 : n = 2
    · subst k2; exact f_4_2_5_2
    by_cases k3 : n = 3
    · subst k3; exact f_4_2_5_3
    by_cases k4 : n = 4
    · subst k4; exact f_4_2_5_4
    by_cases k5 : n = 5
    · subst k5; exact f_4_2_5_5
    by_cases k6 : n = 6
    · subst k6; exact f_4_2_5_6
    omega
  omega
theorem f_1_3_0_0 : runF true false 1 3 0 0 = true := by kernel_rfl
theorem f_1_3_0_1 : runF true false 1 3 1 0 = true := by kernel_rfl
theorem f_1_3_0_2 : runF true false 1 3 2 0 = true := by kernel_rfl
theorem f_1_3_0_3 : runF true false 1 3 3 0 = true := by kernel_rfl
theorem f_1_3_0_4 : runF true false 1 3 4 0 = true := by kernel_rfl
theorem f_1_3_1_0 : runF true false 1 3 0 1 = true := by kernel_rfl
theorem f_1_3_1_1 : runF true false 1 3 1 1 = true := by kernel_rfl
theorem f_1_3_1_2 : runF true false 1 3 2 1 = true := by kernel_rfl
theorem f_1_3_1_3 : runF true false 1 3 3 1 = true := by kernel_rfl
theorem f_1_3_1_4 : runF true false 1 3 4 1 = true := by kernel_rfl
theorem f_1_3_2_0 : runF true false 1 3 0 2 = true := by kernel_rfl
theorem f_1_3_2_1 : runF true false 1 3 1 2 = true := by kernel_rfl
theorem f_1_3_2_2 : runF true false 1 3 2 2 = true := by kernel_rfl
theorem f_1_3_2_3 : runF true false 1 3 3 2 = true := by kernel_rfl
theorem f_1_3_2_4 : runF true false 1 3 4 2 = true := by kernel_rfl
theorem f_1_3_3_0 : runF true false 1 3 0 3 = true := by kernel_rfl
theorem f_1_3_3_1 : runF true false 1 3 1 3 = true := by kernel_rfl
theorem f_1_3_3_2 : runF true false 1 3 2 3 = true := by kernel_rfl
theorem f_1_3_3_3 : runF true false 1 3 3 3 = true := by kernel_rfl
theorem f_1_3_3_4 : runF true false 1 3 4 3 = true := by kernel_rfl
theorem fa_1_3 : ∀ r n, r < 4 → n ≤ 4 → runF true false 1 3 n r = true := by
  intro r n hr hn
  by_cases r0 : r = 0
  · subst r0
    by_cases k0 : n = 0
    · subst k0; exact f_1_3_0_0
    by_cases k1 : n = 1
    · subst k1; exact f_1_3_0_1
    by_cases k2 : n = 2
    · subst k2; exact f_1_3_0_2
    by_cases k3 : n = 3
    · subst k3; exact f_1_3_0_3
    by_cases k4 : n = 4
    · subst k4; exact f_1_3_0_4
    omega
  by_cases r1 : r = 1
  · subst r1
    by_cases k0 : n = 0
    · subst k0; exact f_1_3_1_0
    by_cases k1 : n = 1
    · subst k1; exact f_1_3_1_1
    by_cases k2 : n = 2
    · subst k2; exact f_1_3_1_2
    by_cases k3 : n = 3
    · subst k3; exact f_1_3_1_3
    by_cases k4 : n = 4
    · subst k4; exact f_1_3_1_4
    omega
  by_cases r2 : r = 2
  · subst r2
    by_cases k0 : n = 0
    · subst k0; exact f_1_3_2_0
    by_cases k1 : n = 1
    · subst k1; exact f_1_3_2_1
    by_cases k2 : n = 2
    · subst k2; exact f_1_3_2_2
    by_cases k3 : n = 3
    · subst k3; exact f_1_3_2_3
    by_cases k4 : n = 4
    · subst k4; exact f_1_3_2_4
    omega
  by_cases r3 : r = 3
  · subst r3
    by_cases k0 : n = 0
    · subst k0; exact f_1_3_3_0
    by_cases k1 : n = 1
    · subst k1; exact f_1_3_3_1
    by_cases k2 : n = 2
    · subst k2; exact f_1_3_3_2
    by_cases k3 : n = 3
    · subst k3; exact f_1_3_3_3
    by_cases k4 : n = 4
    · subst k4; exact f_1_3_3_4
    omega
  omega
end Go.Proofs.YtdhljfjmalphiaaDoor.Tab
