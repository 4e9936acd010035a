/- Runs of TaskFails, by how many fragments there are. -/
import Derived.Test.YtdhljfjmalphiaaDoorFails
namespace Go.Proofs.YtdhljfjmalphiaaDoor.Tab
open Go.Ai
set_option maxRecDepth 100000
theorem f_4_3_0_0 : runF true false 4 3 0 0 = true := by kernel_rfl
theorem f_4_3_0_1 : runF true false 4 3 1 0 = true := by kernel_rfl
theorem f_4_3_0_2 : runF true false 4 3 2 0 = true := by kernel_rfl
theorem f_4_3_0_3 : runF true false 4 3 3 0 = true := by kernel_rfl
theorem f_4_3_0_4 : runF true false 4 3 4 0 = true := by kernel_rfl
theorem f_4_3_0_5 : runF true false 4 3 5 0 = true := by kernel_rfl
theorem f_4_3_0_6 : runF true false 4 3 6 0 = true := by kernel_rfl
theorem f_4_3_0_7 : runF true false 4 3 7 0 = true := by kernel_rfl
theorem f_4_3_1_0 : runF true false 4 3 0 1 = true := by kernel_rfl
theorem f_4_3_1_1 : runF true false 4 3 1 1 = true := by kernel_rfl
theorem f_4_3_1_2 : runF true false 4 3 2 1 = true := by kernel_rfl
theorem f_4_3_1_3 : runF true false 4 3 3 1 = true := by kernel_rfl
theorem f_4_3_1_4 : runF true false 4 3 4 1 = true := by kernel_rfl
theorem f_4_3_1_5 : runF true false 4 3 5 1 = true := by kernel_rfl
theorem f_4_3_1_6 : runF true false 4 3 6 1 = true := by kernel_rfl
theorem f_4_3_1_7 : runF true false 4 3 7 1 = true := by kernel_rfl
theorem f_4_3_2_0 : runF true false 4 3 0 2 = true := by kernel_rfl
theorem f_4_3_2_1 : runF true false 4 3 1 2 = true := by kernel_rfl
theorem f_4_3_2_2 : runF true false 4 3 2 2 = true := by kernel_rfl
theorem f_4_3_2_3 : runF true false 4 3 3 2 = true := by kernel_rfl
theorem f_4_3_2_4 : runF true false 4 3 4 2 = true := by kernel_rfl
theorem f_4_3_2_5 : runF true false 4 3 5 2 = true := by kernel_rfl
theorem f_4_3_2_6 : runF true false 4 3 6 2 = true := by kernel_rfl
theorem f_4_3_2_7 : runF true false 4 3 7 2 = true := by kernel_rfl
theorem f_4_3_3_0 : runF true false 4 3 0 3 = true := by kernel_rfl
theorem f_4_3_3_1 : runF true false 4 3 1 3 = true := by kernel_rfl
theorem f_4_3_3_2 : runF true false 4 3 2 3 = true := by kernel_rfl
theorem f_4_3_3_3 : runF true false 4 3 3 3 = true := by kernel_rfl
theorem f_4_3_3_4 : runF true false 4 3 4 3 = true := by kernel_rfl
theorem f_4_3_3_5 : runF true false 4 3 5 3 = true := by kernel_rfl
theorem f_4_3_3_6 : runF true false 4 3 6 3 = true := by kernel_rfl
theorem f_4_3_3_7 : runF true false 4 3 7 3 = true := by kernel_rfl
theorem f_4_3_4_0 : runF true false 4 3 0 4 = true := by kernel_rfl
theorem f_4_3_4_1 : runF true false 4 3 1 4 = true := by kernel_rfl
theorem f_4_3_4_2 : runF true false 4 3 2 4 = true := by kernel_rfl
theorem f_4_3_4_3 : runF true false 4 3 3 4 = true := by kernel_rfl
theorem f_4_3_4_4 : runF true false 4 3 4 4 = true := by kernel_rfl
theorem f_4_3_4_5 : runF true false 4 3 5 4 = true := by kernel_rfl
theorem f_4_3_4_6 : runF true false 4 3 6 4 = true := by kernel_rfl
theorem f_4_3_4_7 : runF true false 4 3 7 4 = true := by kernel_rfl
theorem f_4_3_5_0 : runF true false 4 3 0 5 = true := by kernel_rfl
theorem f_4_3_5_1 : runF true false 4 3 1 5 = true := by kernel_rfl
theorem f_4_3_5_2 : runF true false 4 3 2 5 = true := by kernel_rfl
theorem f_4_3_5_3 : runF true false 4 3 3 5 = true := by kernel_rfl
theorem f_4_3_5_4 : runF true false 4 3 4 5 = true := by kernel_rfl
theorem f_4_3_5_5 : runF true false 4 3 5 5 = true := by kernel_rfl
theorem f_4_3_5_6 : runF true false 4 3 6 5 = true := by kernel_rfl
theorem f_4_3_5_7 : runF true false 4 3 7 5 = true := by kernel_rfl
theorem f_4_3_6_0 : runF true false 4 3 0 6 = true := by kernel_rfl
theorem f_4_3_6_1 : runF true false 4 3 1 6 = true := by kernel_rfl
theorem f_4_3_6_2 : runF true false 4 3 2 6 = true := by kernel_rfl
theorem f_4_3_6_3 : runF true false 4 3 3 6 = true := by kernel_rfl
theorem f_4_3_6_4 : runF true false 4 3 4 6 = true := by kernel_rfl
theorem f_4_3_6_5 : runF true false 4 3 5 6 = true := by kernel_rfl
theorem f_4_3_6_6 : runF true false 4 3 6 6 = true := by kernel_rfl
theorem f_4_3_6_7 : runF true false 4 3 7 6 = true := by kernel_rfl
theorem fa_4_3 : ∀ r n, r < 7 → n ≤ 7 → runF true false 4 3 n r = true := by
  intro r n hr hn
  by_cases r0 : r = 0
  · subst r0
    by_cases k0 : n = 0
    · subst k0; exact f_4_3_0_0
    by_cases k1 : n = 1
    · subst k1; exact f_4_3_0_1
    by_cases k2 : n = 2
    · subst k2; exact f_4_3_0_2
    by_cases k3 : n = 3
    · subst k3; exact f_4_3_0_3
    by_cases k4 : n = 4
    · subst k4; exact f_4_3_0_4
    by_cases k5 : n = 5
    · subst k5; exact f_4_3_0_5
    by_cases k6 : n = 6
    · subst k6; exact f_4_3_0_6
    by_cases k7 : n = 7
    · subst k7; exact f_4_3_0_7
    omega
  by_cases r1 : r = 1
  · subst r1
    by_cases k0 : n = 0
    · subst k0; exact f_4_3_1_0
    by_cases k1 : n = 1
    · subst k1; exact f_4_3_1_1
    by_cases k2 : n = 2
    · subst k2; exact f_4_3_1_2
    by_cases k3 : n = 3
    · subst k3; exact f_4_3_1_3
    by_cases k4 : n = 4
    · subst k4; exact f_4_3_1_4
    by_cases k5 : n = 5
    · subst k5; exact f_4_3_1_5
    by_cases k6 : n = 6
    · subst k6; exact f_4_3_1_6
    by_cases k7 : n = 7
    · subst k7; exact f_4_3_1_7
    omega
  by_cases r2 : r = 2
  · subst r2
    by_cases k0 : n = 0
    · subst k0; exact f_4_3_2_0
    by_cases k1 : n = 1
    · subst k1; exact f_4_3_2_1
    by_cases k2 : n = 2
    · subst k2; exact f_4_3_2_2
    by_cases k3 : n = 3
    · subst k3; exact f_4_3_2_3
    by_cases k4 : n = 4
    · subst k4; exact f_4_3_2_4
    by_cases k5 : n = 5
    · subst k5; exact f_4_3_2_5
    by_cases k6 : n = 6
    · subst k6; exact f_4_3_2_6
    by_cases k7 : n = 7
    · subst k7; exact f_4_3_2_7
    omega
  by_cases r3 : r = 3
  · subst r3
    by_cases k0 : n = 0
    · subst k0; exact f_4_3_3_0
    by_cases k1 : n = 1
    · subst k1; exact f_4_3_3_1
    by_cases k2 : n = 2
    · subst k2; exact f_4_3_3_2
    by_cases k3 : n = 3
    · subst k3; exact f_4_3_3_3
    by_cases k4 : n = 4
    · subst k4; exact f_4_3_3_4
    by_cases k5 : n = 5
    · subst k5; exact f_4_3_3_5
    by_cases k6 : n = 6
    · subst k6; exact f_4_3_3_6
    by_cases k7 : n = 7
    · subst k7; exact f_4_3_3_7
    omega
  by_cases r4 : r = 4
  · subst r4
    by_cases k0 : n = 0
    · subst k0; exact f_4_3_4_0
    by_cases k1 : n = 1
    · subst k1; exact f_4_3_4_1
    by_cases k2 : n = 2
    · subst k2; exact f_4_3_4_2
    by_cases k3 : n = 3
    · subst k3; exact f_4_3_4_3
    by_cases k4 : n = 4
    · subst k4; exact f_4_3_4_4
    by_cases k5 : n = 5
    · subst k5; exact f_4_3_4_5
    by_cases k6 : n = 6
    · subst k6; exact f_4_3_4_6
    by_cases k7 : n = 7
    · subst k7; exact f_4_3_4_7
    omega
  by_cases r5 : r = 5
  · subst r5
    by_cases k0 : n = 0
    · subst k0; exact f_4_3_5_0
    by_cases k1 : n = 1
    · subst k1; exact f_4_3_5_1
    by_cases k2 : n = 2
    · subst k2; exact f_4_3_5_2
    by_cases k3 : n = 3
    · subst k3; exact f_4_3_5_3
    by_cases k4 : n = 4
    · subst k4; exact f_4_3_5_4
    by_cases k5 : n = 5
    · subst k5; exact f_4_3_5_5
    by_cases k6 : n = 6
    · subst k6; exact f_4_3_5_6
    by_cases k7 : n = 7
    · subst k7; exact f_4_3_5_7
    omega
  by_cases r6 : r = 6
  · subst r6
    by_cases k0 : n = 0
    · subst k0; exact f_4_3_6_0
    by_cases k1 : n = 1
    · subst k1; exact f_4_3_6_1
    by_cases k2 : n = 2
    · subst k2; exact f_4_3_6_2
    by_cases k3 : n = 3
    · subst k3; exact f_4_3_6_3
    by_cases k4 : n = 4
    · subst k4; exact f_4_3_6_4
    by_cases k5 : n = 5
    · subst k5; exact f_4_3_6_5
    by_cases k6 : n = 6
    · subst k6; exact f_4_3_6_6
    by_cases k7 : n = 7
    · subst k7; exact f_4_3_6_7
    omega
  omega
theorem f_1_0_0_0 : runF true false 1 0 0 0 = true := by kernel_rfl
theorem f_1_0_0_1 : runF true false 1 0 1 0 = true := by kernel_rfl
theorem fa_1_0 : ∀ r n, r < 1 → n ≤ 1 → runF true false 1 0 n r = true := by
  intro r n hr hn
  by_cases r0 : r = 0
  · subst r0
    by_cases k0 : n = 0
    · subst k0; exact f_1_0_0_0
    by_cases k1 : n = 1
    · subst k1; exact f_1_0_0_1
    omega
  omega
end Go.Proofs.YtdhljfjmalphiaaDoor.Tab
