/- Runs of TaskFails, by how many fragments there are. -/
import Derived.Test.YtdhljfjmalphiaaDoorFails
namespace Go.Proofs.YtdhljfjmalphiaaDoor.Tab
open Go.Ai
set_option maxRecDepth 100000
theorem f_2_3_0_0 : runF true false 2 3 0 0 = true := by kernel_rfl
theorem f_2_3_0_1 : runF true false 2 3 1 0 = true := by kernel_rfl
theorem f_2_3_0_2 : runF true false 2 3 2 0 = true := by kernel_rfl
theorem f_2_3_0_3 : runF true false 2 3 3 0 = true := by kernel_rfl
theorem f_2_3_0_4 : runF true false 2 3 4 0 = true := by kernel_rfl
theorem f_2_3_0_5 : runF true false 2 3 5 0 = true := by kernel_rfl
theorem f_2_3_1_0 : runF true false 2 3 0 1 = true := by kernel_rfl
theorem f_2_3_1_1 : runF true false 2 3 1 1 = true := by kernel_rfl
theorem f_2_3_1_2 : runF true false 2 3 2 1 = true := by kernel_rfl
theorem f_2_3_1_3 : runF true false 2 3 3 1 = true := by kernel_rfl
theorem f_2_3_1_4 : runF true false 2 3 4 1 = true := by kernel_rfl
theorem f_2_3_1_5 : runF true false 2 3 5 1 = true := by kernel_rfl
theorem f_2_3_2_0 : runF true false 2 3 0 2 = true := by kernel_rfl
theorem f_2_3_2_1 : runF true false 2 3 1 2 = true := by kernel_rfl
theorem f_2_3_2_2 : runF true false 2 3 2 2 = true := by kernel_rfl
theorem f_2_3_2_3 : runF true false 2 3 3 2 = true := by kernel_rfl
theorem f_2_3_2_4 : runF true false 2 3 4 2 = true := by kernel_rfl
theorem f_2_3_2_5 : runF true false 2 3 5 2 = true := by kernel_rfl
theorem f_2_3_3_0 : runF true false 2 3 0 3 = true := by kernel_rfl
theorem f_2_3_3_1 : runF true false 2 3 1 3 = true := by kernel_rfl
theorem f_2_3_3_2 : runF true false 2 3 2 3 = true := by kernel_rfl
theorem f_2_3_3_3 : runF true false 2 3 3 3 = true := by kernel_rfl
theorem f_2_3_3_4 : runF true false 2 3 4 3 = true := by kernel_rfl
theorem f_2_3_3_5 : runF true false 2 3 5 3 = true := by kernel_rfl
theorem f_2_3_4_0 : runF true false 2 3 0 4 = true := by kernel_rfl
theorem f_2_3_4_1 : runF true false 2 3 1 4 = true := by kernel_rfl
theorem f_2_3_4_2 : runF true false 2 3 2 4 = true := by kernel_rfl
theorem f_2_3_4_3 : runF true false 2 3 3 4 = true := by kernel_rfl
theorem f_2_3_4_4 : runF true false 2 3 4 4 = true := by kernel_rfl
theorem f_2_3_4_5 : runF true false 2 3 5 4 = true := by kernel_rfl
theorem fa_2_3 : ∀ r n, r < 5 → n ≤ 5 → runF true false 2 3 n r = true := by
  intro r n hr hn
  by_cases r0 : r = 0
  · subst r0
    by_cases k0 : n = 0
    · subst k0; exact f_2_3_0_0
    by_cases k1 : n = 1
    · subst k1; exact f_2_3_0_1
    by_cases k2 : n = 2
    · subst k2; exact f_2_3_0_2
    by_cases k3 : n = 3
    · subst k3; exact f_2_3_0_3
    by_cases k4 : n = 4
    · subst k4; exact f_2_3_0_4
    by_cases k5 : n = 5
    · subst k5; exact f_2_3_0_5
    omega
  by_cases r1 : r = 1
  · subst r1
    by_cases k0 : n = 0
    · subst k0; exact f_2_3_1_0
    by_cases k1 : n = 1
    · subst k1; exact f_2_3_1_1
    by_cases k2 : n = 2
    · subst k2; exact f_2_3_1_2
    by_cases k3 : n = 3
    · subst k3; exact f_2_3_1_3
    by_cases k4 : n = 4
    · subst k4; exact f_2_3_1_4
    by_cases k5 : n = 5
    · subst k5; exact f_2_3_1_5
    omega
  by_cases r2 : r = 2
  · subst r2
    by_cases k0 : n = 0
    · subst k0; exact f_2_3_2_0
    by_cases k1 : n = 1
    · subst k1; exact f_2_3_2_1
    by_cases k2 : n = 2
    · subst k2; exact f_2_3_2_2
    by_cases k3 : n = 3
    · subst k3; exact f_2_3_2_3
    by_cases k4 : n = 4
    · subst k4; exact f_2_3_2_4
    by_cases k5 : n = 5
    · subst k5; exact f_2_3_2_5
    omega
  by_cases r3 : r = 3
  · subst r3
    by_cases k0 : n = 0
    · subst k0; exact f_2_3_3_0
    by_cases k1 : n = 1
    · subst k1; exact f_2_3_3_1
    by_cases k2 : n = 2
    · subst k2; exact f_2_3_3_2
    by_cases k3 : n = 3
    · subst k3; exact f_2_3_3_3
    by_cases k4 : n = 4
    · subst k4; exact f_2_3_3_4
    by_cases k5 : n = 5
    · subst k5; exact f_2_3_3_5
    omega
  by_cases r4 : r = 4
  · subst r4
    by_cases k0 : n = 0
    · subst k0; exact f_2_3_4_0
    by_cases k1 : n = 1
    · subst k1; exact f_2_3_4_1
    by_cases k2 : n = 2
    · subst k2; exact f_2_3_4_2
    by_cases k3 : n = 3
    · subst k3; exact f_2_3_4_3
    by_cases k4 : n = 4
    · subst k4; exact f_2_3_4_4
    by_cases k5 : n = 5
    · subst k5; exact f_2_3_4_5
    omega
  omega
theorem f_3_2_0_0 : runF true false 3 2 0 0 = true := by kernel_rfl
theorem f_3_2_0_1 : runF true false 3 2 1 0 = true := by kernel_rfl
theorem f_3_2_0_2 : runF true false 3 2 2 0 = true := by kernel_rfl
theorem f_3_2_0_3 : runF true false 3 2 3 0 = true := by kernel_rfl
theorem f_3_2_0_4 : runF true false 3 2 4 0 = true := by kernel_rfl
theorem f_3_2_0_5 : runF true false 3 2 5 0 = true := by kernel_rfl
theorem f_3_2_1_0 : runF true false 3 2 0 1 = true := by kernel_rfl
theorem f_3_2_1_1 : runF true false 3 2 1 1 = true := by kernel_rfl
theorem f_3_2_1_2 : runF true false 3 2 2 1 = true := by kernel_rfl
theorem f_3_2_1_3 : runF true false 3 2 3 1 = true := by kernel_rfl
theorem f_3_2_1_4 : runF true false 3 2 4 1 = true := by kernel_rfl
theorem f_3_2_1_5 : runF true false 3 2 5 1 = true := by kernel_rfl
theorem f_3_2_2_0 : runF true false 3 2 0 2 = true := by kernel_rfl
theorem f_3_2_2_1 : runF true false 3 2 1 2 = true := by kernel_rfl
theorem f_3_2_2_2 : runF true false 3 2 2 2 = true := by kernel_rfl
theorem f_3_2_2_3 : runF true false 3 2 3 2 = true := by kernel_rfl
theorem f_3_2_2_4 : runF true false 3 2 4 2 = true := by kernel_rfl
theorem f_3_2_2_5 : runF true false 3 2 5 2 = true := by kernel_rfl
theorem f_3_2_3_0 : runF true false 3 2 0 3 = true := by kernel_rfl
theorem f_3_2_3_1 : runF true false 3 2 1 3 = true := by kernel_rfl
theorem f_3_2_3_2 : runF true false 3 2 2 3 = true := by kernel_rfl
theorem f_3_2_3_3 : runF true false 3 2 3 3 = true := by kernel_rfl
theorem f_3_2_3_4 : runF true false 3 2 4 3 = true := by kernel_rfl
theorem f_3_2_3_5 : runF true false 3 2 5 3 = true := by kernel_rfl
theorem f_3_2_4_0 : runF true false 3 2 0 4 = true := by kernel_rfl
theorem f_3_2_4_1 : runF true false 3 2 1 4 = true := by kernel_rfl
theorem f_3_2_4_2 : runF true false 3 2 2 4 = true := by kernel_rfl
theorem f_3_2_4_3 : runF true false 3 2 3 4 = true := by kernel_rfl
theorem f_3_2_4_4 : runF true false 3 2 4 4 = true := by kernel_rfl
theorem f_3_2_4_5 : runF true false 3 2 5 4 = true := by kernel_rfl
theorem fa_3_2 : ∀ r n, r < 5 → n ≤ 5 → runF true false 3 2 n r = true := by
  intro r n hr hn
  by_cases r0 : r = 0
  · subst r0
    by_cases k0 : n = 0
    · subst k0; exact f_3_2_0_0
    by_cases k1 : n = 1
    · subst k1; exact f_3_2_0_1
    by_cases k2 : n = 2
    · subst k2; exact f_3_2_0_2
    by_cases k3 : n = 3
    · subst k3; exact f_3_2_0_3
    by_cases k4 : n = 4
    · subst k4; exact f_3_2_0_4
    by_cases k5 : n = 5
    · subst k5; exact f_3_2_0_5
    omega
  by_cases r1 : r = 1
  · subst r1
    by_cases k0 : n = 0
    · subst k0; exact f_3_2_1_0
    by_cases k1 : n = 1
    · subst k1; exact f_3_2_1_1
    by_cases k2 : n = 2
    · subst k2; exact f_3_2_1_2
    by_cases k3 : n = 3
    · subst k3; exact f_3_2_1_3
    by_cases k4 : n = 4
    · subst k4; exact f_3_2_1_4
    by_cases k5 : n = 5
    · subst k5; exact f_3_2_1_5
    omega
  by_cases r2 : r = 2
  · subst r2
    by_cases k0 : n = 0
    · subst k0; exact f_3_2_2_0
    by_cases k1 : n = 1
    · subst k1; exact f_3_2_2_1
    by_cases k2 : n = 2
    · subst k2; exact f_3_2_2_2
    by_cases k3 : n = 3
    · subst k3; exact f_3_2_2_3
    by_cases k4 : n = 4
    · subst k4; exact f_3_2_2_4
    by_cases k5 : n = 5
    · subst k5; exact f_3_2_2_5
    omega
  by_cases r3 : r = 3
  · subst r3
    by_cases k0 : n = 0
    · subst k0; exact f_3_2_3_0
    by_cases k1 : n = 1
    · subst k1; exact f_3_2_3_1
    by_cases k2 : n = 2
    · subst k2; exact f_3_2_3_2
    by_cases k3 : n = 3
    · subst k3; exact f_3_2_3_3
    by_cases k4 : n = 4
    · subst k4; exact f_3_2_3_4
    by_cases k5 : n = 5
    · subst k5; exact f_3_2_3_5
    omega
  by_cases r4 : r = 4
  · subst r4
    by_cases k0 : n = 0
    · subst k0; exact f_3_2_4_0
    by_cases k1 : n = 1
    · subst k1; exact f_3_2_4_1
    by_cases k2 : n = 2
    · subst k2; exact f_3_2_4_2
    by_cases k3 : n = 3
    · subst k3; exact f_3_2_4_3
    by_cases k4 : n = 4
    · subst k4; exact f_3_2_4_4
    by_cases k5 : n = 5
    · subst k5; exact f_3_2_4_5
    omega
  omega
end Go.Proofs.YtdhljfjmalphiaaDoor.Tab
