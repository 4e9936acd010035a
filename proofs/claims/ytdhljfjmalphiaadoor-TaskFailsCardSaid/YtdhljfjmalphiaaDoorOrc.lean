/- An oracle's answers: operations on numbers and strings that are not known. -/
import Derived.Test.YtdhljfjmalphiaaDoorLeaf
import Derived.Test.YtdhljfjmalphiaaDoorMake
namespace Go.Ai
section
variable [Val] {P : Program} {w : World} {σ : Sg}
theorem orc_bin {o : Oper} {op : BinOp} {t yt : Nat} {x y : Operand} (ho : o.op = .binOp op t x y yt) {ρc : Operand → Value} {k : IntKind} {a b : Int} (hx : ρc x = .int k a) (hy : ρc y = .int k b)
    {v v' : V} (h : intBin op k a b = some v') (h1 : op ≠ .shl) (h2 : op ≠ .shr) (hv : ∀ u, VR σ v' u → VR σ v u) : ∃ u, (execOp ρc o).run P w = .ok (.value u) w ∧ VR σ v u := by
  obtain ⟨dst, op', ty, pos, after, guard⟩ := o
  simp only at ho; subst ho
  obtain ⟨u, hu, hr⟩ := intBin_ok (P := P) (w := w) (σ := σ) (t := t) h h1 h2
  refine ⟨u, run_value ?_, hv u hr⟩
  rw [hx, hy]
  have hg : (eqGuard op t x y (.int k a) (.int k b)).run P w = .ok () w := eqGuard_none (by intro _ _ h; cases h) (by intro h; cases h)
  simp only [Sem.run_bind, hg, hu, Result.andThen_ok]
theorem orc_conv {c : Ctx} (T : TOk P c) {o : Oper} {src dst : Nat} {x : Operand} (ho : o.op = .convert src dst x) {ρc : Operand → Value} {k : IntKind} {a : Int} (hx : ρc x = .int k a)
    {v v' : V} (h : convV c (s0 c.ng) src dst (.int k a) = some v') (hv : ∀ u, VR (sg0 c.ng) v' u → VR σ v u) : ∃ u, (execOp ρc o).run P w = .ok (.value u) w ∧ VR σ v u := by
  obtain ⟨dst', op', ty, pos, after, guard⟩ := o
  simp only at ho; subst ho
  obtain ⟨u, hu, hr⟩ := convV_ok T (rel0 c.ng w) h (u := .int k a) (by simp only [VR])
  exact ⟨u, run_value (by rw [hx]; exact hu), hv u hr⟩
end
end Go.Ai
namespace Go.Proofs.YtdhljfjmalphiaaDoor.Tab
open Go.Ai
set_option maxRecDepth 100000

theorem task_runs : gives (callN (ctx sumMake none3 none2) 1000 60 8 [] (s0 (ctx none3 none3 none2).ng)) (.bool true) = true := by kernel_rfl
theorem callM [Val] (d : Nat) : CallOk Tryd.prog (ctx none3 none3 none2).ng (callN (ctx sumMake none3 none2) 1000 d) :=
  callN_ok mixed (tok orc_none) ftok (fun f args s v s' h => by cases h) sumMake_ok codes d
end Go.Proofs.YtdhljfjmalphiaaDoor.Tab
