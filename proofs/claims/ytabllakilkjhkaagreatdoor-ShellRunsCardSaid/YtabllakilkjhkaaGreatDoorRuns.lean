/- The runs that meet strings.Builder and bytealg's entries. -/
import Derived.Test.YtabllakilkjhkaaGreatDoorMake
namespace Go.Proofs.YtabllakilkjhkaaGreatDoor.Tab
open Go.Ai
set_option maxRecDepth 100000
noncomputable def sumMake : CallF := fun f args s => cond (Nat.beq f 118) (match args with
  | [] => some (makeV, s)
  | _ => none) none
theorem sumMake_ok : CallOk Tryz.prog (ctx none3 none2).ng sumMake := by
  intro f args s v s' h pr w0 σ w cargs R hargs
  unfold sumMake at h
  cases hf : Nat.beq f 118 with
  | false => simp [hf] at h
  | true =>
    have hf' := Nat.eq_of_beq_eq_true hf
    subst hf'
    simp only [hf, cond_true] at h
    split at h
    case h_2 => cases h
    cases h
    obtain ⟨s1, h1⟩ := gives_ok make_run
    exact herm (call0 3) h1 rfl (by kernel_rfl) pr w0 σ _ w cargs R hargs
noncomputable def exts : CallF := ext4 175 338 291 235 5
theorem is175 : ExtIs Tryz.prog 175 Extern.AbiNoEscape.same := ⟨⟨Tryz.f175, Tryz.func175, by kernel_rfl, by kernel_rfl, by kernel_rfl, by kernel_rfl⟩⟩
theorem is338 : ExtIs Tryz.prog 338 (Extern.BytealgMakeNoZero.makeNoZero #[3] #[138]) := ⟨⟨Tryz.f338, Tryz.func338, by kernel_rfl, by kernel_rfl, by kernel_rfl, by kernel_rfl⟩⟩
theorem is291 : ExtIs Tryz.prog 291 Extern.BytealgIndexByte.indexByte := ⟨⟨Tryz.f291, Tryz.func291, by kernel_rfl, by kernel_rfl, by kernel_rfl, by kernel_rfl⟩⟩
theorem is235 : ExtIs Tryz.prog 235 Extern.BytealgCount.count := ⟨⟨Tryz.f235, Tryz.func235, by kernel_rfl, by kernel_rfl, by kernel_rfl, by kernel_rfl⟩⟩
theorem exts_ok {sum : CallF} : ExtOk Tryz.prog (ctx sum exts) := ext4_ok rfl (noEsc_ok is175) (mnz_ok is338 Tryz.underlying138) (idx_ok is291) (cnt_ok is235)
theorem call2 (d : Nat) : CallOk Tryz.prog (ctx none3 none2).ng (callN (ctx sumMake exts) 1000 d) :=
  callN_ok mixed tok ftok exts_ok sumMake_ok codes d
end Go.Proofs.YtabllakilkjhkaaGreatDoor.Tab
