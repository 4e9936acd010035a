/- The run of chapter 23's router. -/
import Derived.Test.YtabllakilkjhkaaGreatDoorMake
namespace Go.Proofs.YtabllakilkjhkaaGreatDoor.Tab
open Go.Ai
set_option maxRecDepth 100000
noncomputable def sumMake : CallF := fun f args s => cond (Nat.beq f 118) (match args with
  | [] => some (makeV, s)
  | _ => none) none
theorem sumMake_ok : CallOk Tryz.prog (ctx none3 none2).ng sumMake := by
  intro f args s v s' h pr w0 σ w cargs R hargs
  unfold sumMake at h
  cases hf : Nat.beq f 118 with
  | false => simp [hf] at h
  | true =>
    have hf' := Nat.eq_of_beq_eq_true hf
    subst hf'
    simp only [hf, cond_true] at h
    split at h
    case h_2 => cases h
    cases h
    obtain ⟨s1, h1⟩ := gives_ok make_run
    exact herm (call0 3) h1 rfl (by kernel_rfl) pr w0 σ _ w cargs R hargs
theorem call1 (d : Nat) : CallOk Tryz.prog (ctx none3 none2).ng (callN (ctx sumMake none2) 1000 d) :=
  callN_ok mixed tok ftok (fun f args v h => by cases h) sumMake_ok codes d
theorem router_run : gives (callN (ctx sumMake none2) 1000 40 3 [] (s0 (ctx none3 none2).ng)) (.bool true) = true := by kernel_rfl
end Go.Proofs.YtabllakilkjhkaaGreatDoor.Tab
