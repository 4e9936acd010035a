/- Runs of TaskFails, by how many fragments there are. -/
import Derived.Test.YtdhljfjmalphiaaDoorFails
namespace Go.Proofs.YtdhljfjmalphiaaDoor.Tab
open Go.Ai
set_option maxRecDepth 100000
theorem f_4_0_0_0 : runF true false 4 0 0 0 = true := by kernel_rfl
theorem f_4_0_0_1 : runF true false 4 0 1 0 = true := by kernel_rfl
theorem f_4_0_0_2 : runF true false 4 0 2 0 = true := by kernel_rfl
theorem f_4_0_0_3 : runF true false 4 0 3 0 = true := by kernel_rfl
theorem f_4_0_0_4 : runF true false 4 0 4 0 = true := by kernel_rfl
theorem f_4_0_1_0 : runF true false 4 0 0 1 = true := by kernel_rfl
theorem f_4_0_1_1 : runF true false 4 0 1 1 = true := by kernel_rfl
theorem f_4_0_1_2 : runF true false 4 0 2 1 = true := by kernel_rfl
theorem f_4_0_1_3 : runF true false 4 0 3 1 = true := by kernel_rfl
theorem f_4_0_1_4 : runF true false 4 0 4 1 = true := by kernel_rfl
theorem f_4_0_2_0 : runF true false 4 0 0 2 = true := by kernel_rfl
theorem f_4_0_2_1 : runF true false 4 0 1 2 = true := by kernel_rfl
theorem f_4_0_2_2 : runF true false 4 0 2 2 = true := by kernel_rfl
theorem f_4_0_2_3 : runF true false 4 0 3 2 = true := by kernel_rfl
theorem f_4_0_2_4 : runF true false 4 0 4 2 = true := by kernel_rfl
theorem f_4_0_3_0 : runF true false 4 0 0 3 = true := by kernel_rfl
theorem f_4_0_3_1 : runF true false 4 0 1 3 = true := by kernel_rfl
theorem f_4_0_3_2 : runF true false 4 0 2 3 = true := by kernel_rfl
theorem f_4_0_3_3 : runF true false 4 0 3 3 = true := by kernel_rfl
theorem f_4_0_3_4 : runF true false 4 0 4 3 = true := by kernel_rfl
theorem fa_4_0 : ∀ r n, r < 4 → n ≤ 4 → runF true false 4 0 n r = true := by
  intro r n hr hn
  by_cases r0 : r = 0
  · subst r0
    by_cases k0 : n = 0
    · subst k0; exact f_4_0_0_0
    by_cases k1 : n = 1
    · subst k1; exact f_4_0_0_1
    by_cases k2 : n = 2
    · subst k2; exact f_4_0_0_2
    by_cases k3 : n = 3
    · subst k3; exact f_4_0_0_3
    by_cases k4 : n = 4
    · subst k4; exact f_4_0_0_4
    omega
  by_cases r1 : r = 1
  · subst r1
    by_cases k0 : n = 0
    · subst k0; exact f_4_0_1_0
    by_cases k1 : n = 1
    · subst k1; exact f_4_0_1_1
    by_cases k2 : n = 2
    · subst k2; exact f_4_0_1_2
    by_cases k3 : n = 3
    · subst k3; exact f_4_0_1_3
    by_cases k4 : n = 4
    · subst k4; exact f_4_0_1_4
    omega
  by_cases r2 : r = 2
  · subst r2
    by_cases k0 : n = 0
    · subst k0; exact f_4_0_2_0
    by_cases k1 : n = 1
    · subst k1; exact f_4_0_2_1
    by_cases k2 : n = 2
    · subst k2; exact f_4_0_2_2
    by_cases k3 : n = 3
    · subst k3; exact f_4_0_2_3
    by_cases k4 : n = 4
    · subst k4; exact f_4_0_2_4
    omega
  by_cases r3 : r = 3
  · subst r3
    by_cases k0 : n = 0
    · subst k0; exact f_4_0_3_0
    by_cases k1 : n = 1
    · subst k1; exact f_4_0_3_1
    by_cases k2 : n = 2
    · subst k2; exact f_4_0_3_2
    by_cases k3 : n = 3
    · subst k3; exact f_4_0_3_3
    by_cases k4 : n = 4
    · subst k4; exact f_4_0_3_4
    omega
  omega
theorem f_2_1_0_0 : runF true false 2 1 0 0 = true := by kernel_rfl
theorem f_2_1_0_1 : runF true false 2 1 1 0 = true := by kernel_rfl
theorem f_2_1_0_2 : runF true false 2 1 2 0 = true := by kernel_rfl
theorem f_2_1_0_3 : runF true false 2 1 3 0 = true := by kernel_rfl
theorem f_2_1_1_0 : runF true false 2 1 0 1 = true := by kernel_rfl
theorem f_2_1_1_1 : runF true false 2 1 1 1 = true := by kernel_rfl
theorem f_2_1_1_2 : runF true false 2 1 2 1 = true := by kernel_rfl
theorem f_2_1_1_3 : runF true false 2 1 3 1 = true := by kernel_rfl
theorem f_2_1_2_0 : runF true false 2 1 0 2 = true := by kernel_rfl
theorem f_2_1_2_1 : runF true false 2 1 1 2 = true := by kernel_rfl
theorem f_2_1_2_2 : runF true false 2 1 2 2 = true := by kernel_rfl
theorem f_2_1_2_3 : runF true false 2 1 3 2 = true := by kernel_rfl
theorem fa_2_1 : ∀ r n, r < 3 → n ≤ 3 → runF true false 2 1 n r = true := by
  intro r n hr hn
  by_cases r0 : r = 0
  · subst r0
    by_cases k0 : n = 0
    · subst k0; exact f_2_1_0_0
    by_cases k1 : n = 1
    · subst k1; exact f_2_1_0_1
    by_cases k2 : n = 2
    · subst k2; exact f_2_1_0_2
    by_cases k3 : n = 3
    · subst k3; exact f_2_1_0_3
    omega
  by_cases r1 : r = 1
  · subst r1
    by_cases k0 : n = 0
    · subst k0; exact f_2_1_1_0
    by_cases k1 : n = 1
    · subst k1; exact f_2_1_1_1
    by_cases k2 : n = 2
    · subst k2; exact f_2_1_1_2
    by_cases k3 : n = 3
    · subst k3; exact f_2_1_1_3
    omega
  by_cases r2 : r = 2
  · subst r2
    by_cases k0 : n = 0
    · subst k0; exact f_2_1_2_0
    by_cases k1 : n = 1
    · subst k1; exact f_2_1_2_1
    by_cases k2 : n = 2
    · subst k2; exact f_2_1_2_2
    by_cases k3 : n = 3
    · subst k3; exact f_2_1_2_3
    omega
  omega
theorem f_3_0_0_0 : runF true false 3 0 0 0 = true := by kernel_rfl
theorem f_3_0_0_1 : runF true false 3 0 1 0 = true := by kernel_rfl
theorem f_3_0_0_2 : runF true false 3 0 2 0 = true := by kernel_rfl
theorem f_3_0_0_3 : runF true false 3 0 3 0 = true := by kernel_rfl
theorem f_3_0_1_0 : runF true false 3 0 0 1 = true := by kernel_rfl
theorem f_3_0_1_1 : runF true false 3 0 1 1 = true := by kernel_rfl
theorem f_3_0_1_2 : runF true false 3 0 2 1 = true := by kernel_rfl
theorem f_3_0_1_3 : runF true false 3 0 3 1 = true := by kernel_rfl
theorem f_3_0_2_0 : runF true false 3 0 0 2 = true := by kernel_rfl
theorem f_3_0_2_1 : runF true false 3 0 1 2 = true := by kernel_rfl
theorem f_3_0_2_2 : runF true false 3 0 2 2 = true := by kernel_rfl
theorem f_3_0_2_3 : runF true false 3 0 3 2 = true := by kernel_rfl
theorem fa_3_0 : ∀ r n, r < 3 → n ≤ 3 → runF true false 3 0 n r = true := by
  intro r n hr hn
  by_cases r0 : r = 0
  · subst r0
    by_cases k0 : n = 0
    · subst k0; exact f_3_0_0_0
    by_cases k1 : n = 1
    · subst k1; exact f_3_0_0_1
    by_cases k2 : n = 2
    · subst k2; exact f_3_0_0_2
    by_cases k3 : n = 3
    · subst k3; exact f_3_0_0_3
    omega
  by_cases r1 : r = 1
  · subst r1
    by_cases k0 : n = 0
    · subst k0; exact f_3_0_1_0
    by_cases k1 : n = 1
    · subst k1; exact f_3_0_1_1
    by_cases k2 : n = 2
    · subst k2; exact f_3_0_1_2
    by_cases k3 : n = 3
    · subst k3; exact f_3_0_1_3
    omega
  by_cases r2 : r = 2
  · subst r2
    by_cases k0 : n = 0
    · subst k0; exact f_3_0_2_0
    by_cases k1 : n = 1
    · subst k1; exact f_3_0_2_1
    by_cases k2 : n = 2
    · subst k2; exact f_3_0_2_2
    by_cases k3 : n = 3
    · subst k3; exact f_3_0_2_3
    omega
  omega
theorem f_1_1_0_0 : runF true false 1 1 0 0 = true := by kernel_rfl
theorem f_1_1_0_1 : runF true false 1 1 1 0 = true := by kernel_rfl
theorem f_1_1_0_2 : runF true false 1 1 2 0 = true := by kernel_rfl
theorem f_1_1_1_0 : runF true false 1 1 0 1 = true := by kernel_rfl
theorem f_1_1_1_1 : runF true false 1 1 1 1 = true := by kernel_rfl
theorem f_1_1_1_2 : runF true false 1 1 2 1 = true := by kernel_rfl
theorem fa_1_1 : ∀ r n, r < 2 → n ≤ 2 → runF true false 1 1 n r = true := by
  intro r n hr hn
  by_cases r0 : r = 0
  · subst r0
    by_cases k0 : n = 0
    · subst k0; exact f_1_1_0_0
    by_cases k1 : n = 1
    · subst k1; exact f_1_1_0_1
    by_cases k2 : n = 2
    · subst k2; exact f_1_1_0_2
    omega
  by_cases r1 : r = 1
  · subst r1
    by_cases k0 : n = 0
    · subst k0; exact f_1_1_1_0
    by_cases k1 : n = 1
    · subst k1; exact f_1_1_1_1
    by_cases k2 : n = 2
    · subst k2; exact f_1_1_1_2
    omega
  omega
theorem f_2_0_0_0 : runF true false 2 0 0 0 = true := by kernel_rfl
theorem f_2_0_0_1 : runF true false 2 0 1 0 = true := by kernel_rfl
theorem f_2_0_0_2 : runF true false 2 0 2 0 = true := by kernel_rfl
theorem f_2_0_1_0 : runF true false 2 0 0 1 = true := by kernel_rfl
theorem f_2_0_1_1 : runF true false 2 0 1 1 = true := by kernel_rfl
theorem f_2_0_1_2 : runF true false 2 0 2 1 = true := by kernel_rfl
theorem fa_2_0 : ∀ r n, r < 2 → n ≤ 2 → runF true false 2 0 n r = true := by
  intro r n hr hn
  by_cases r0 : r = 0
  · subst r0
    by_cases k0 : n = 0
    · subst k0; exact f_2_0_0_0
    by_cases k1 : n = 1
    · subst k1; exact f_2_0_0_1
    by_cases k2 : n = 2
    · subst k2; exact f_2_0_0_2
    omega
  by_cases r1 : r = 1
  · subst r1
    by_cases k0 : n = 0
    · subst k0; exact f_2_0_1_0
    by_cases k1 : n = 1
    · subst k1; exact f_2_0_1_1
    by_cases k2 : n = 2
    · subst k2; exact f_2_0_1_2
    omega
  omega
end Go.Proofs.YtdhljfjmalphiaaDoor.Tab
