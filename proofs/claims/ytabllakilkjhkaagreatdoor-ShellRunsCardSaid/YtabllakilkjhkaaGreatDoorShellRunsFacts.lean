/- The closed facts of the row ShellRuns, each by itself. -/
import Derived.Test.YtabllakilkjhkaaGreatDoorRows
import Derived.JoinedCond
namespace Go.Proofs.YtabllakilkjhkaaGreatDoor.shellRuns
set_option maxRecDepth 100000
theorem k1 : ((Rows.shellRunsRow).wf (OpenSpec.ofChange ((OpenSpec.ofChange Rows.shellRunsSpec).bare))) = true := by kernel_rfl
theorem k2 : (laidOutB Tryz.prog) = true := by kernel_rfl
theorem k3 : (mapsRowed Tryz.prog) = true := by kernel_rfl
theorem k4 : (Tryz.f6.params.all ((Tryz.prog).readableRec ·)) = true := by kernel_rfl
theorem k5 : (namedTie Tryz.prog Rows.shellRunsRow.named ((OpenSpec.ofChange Rows.shellRunsSpec).bare).vars) = true := by kernel_rfl
theorem k6 : ((Rows.shellRunsRow.stops == [])) = true := by kernel_rfl
theorem k7 : ((Tryz.prog.stops == [])) = true := by kernel_rfl
theorem k8 : ((Rows.shellRunsRow.knobs == [])) = true := by kernel_rfl
theorem k9 : ((Tryz.prog.stopKnobs == [])) = true := by kernel_rfl
theorem k10 : ((Rows.shellRunsRow.inPlace == Tryz.prog.inPlace 6)) = true := by kernel_rfl
theorem k11 : ((Rows.shellRunsRow.unfollowed == Tryz.prog.unfollowed 6)) = true := by kernel_rfl
theorem k12 : ((Rows.shellRunsRow.recurses == Tryz.prog.recurses 6)) = true := by kernel_rfl
theorem k13 : ((Rows.shellRunsRow.named == Tryz.prog.varsNamed 6)) = true := by kernel_rfl
theorem k14 : ((Rows.shellRunsRow.maps == (Tryz.f6.params.toList ++ ((OpenSpec.ofChange Rows.shellRunsSpec).bare).plain.varTypes Tryz.prog).any (Tryz.prog.mapsRec ·))) = true := by kernel_rfl
theorem k15 : ((Rows.shellRunsRow.ifaces == (Tryz.f6.params.toList ++ ((OpenSpec.ofChange Rows.shellRunsSpec).bare).plain.varTypes Tryz.prog).any (Tryz.prog.ifacesRec ·))) = true := by kernel_rfl
theorem k16 : ((Rows.shellRunsRow.mapsOut == Tryz.prog.mapsAmong Tryz.f6.resultTypes.toList)) = true := by kernel_rfl
theorem k17 : ((Rows.shellRunsRow.loops == (Tryz.f6.params.toList ++ ((OpenSpec.ofChange Rows.shellRunsSpec).bare).plain.varTypes Tryz.prog).any (Tryz.prog.loopsFrom ·))) = true := by kernel_rfl
theorem k18 : ((Rows.shellRunsRow.wideKeys == (Tryz.f6.params.toList ++ ((OpenSpec.ofChange Rows.shellRunsSpec).bare).plain.varTypes Tryz.prog ++ Tryz.f6.resultTypes.toList).any (Tryz.prog.wideKeysFrom ·))) = true := by kernel_rfl
theorem k19 : (((OpenSpec.ofChange Rows.shellRunsSpec).bare).vars.all (Tryz.prog.varReadable ·)) = true := by kernel_rfl
theorem k20 : (Tryz.f6.resultTypes.all (fun t => Tryz.prog.readableRec t && decide (t < Tryz.prog.types.size))) = true := by kernel_rfl
theorem k21 : ((Rows.shellRunsRow.ifacesOut == Tryz.f6.resultTypes.toList.any (Tryz.prog.ifacesRec ·))) = true := by kernel_rfl
theorem k22 : ((Rows.shellRunsRow.loopsOut == Tryz.f6.resultTypes.toList.any (Tryz.prog.loopsFrom ·))) = true := by kernel_rfl
theorem k23 : ((Rows.shellRunsRow.plainKeys == Tryz.prog.plainKeys)) = true := by kernel_rfl
theorem k24 : (Rows.shellRunsRow.shortTexts.isNone) = true := by kernel_rfl
theorem k25 : (Tryz.prog.stopsHeard) = true := by kernel_rfl
theorem k26 : (Tryz.prog.mayEnter) = true := by kernel_rfl
theorem k27 : ((Rows.shellRunsRow.lifted == Tryz.prog.liftsFinal)) = true := by kernel_rfl
theorem k28 : ((Tryz.prog.make == some Rows.shellRunsRow.make)) = true := by kernel_rfl
theorem k29 : ((Rows.shellRunsRow.kinds == (if Rows.shellRunsRow.domain.isEmpty then [] else Tryz.f6.params.toList.map fun t => match Tryz.prog.underlying t with | some (.int k) => some k | _ => none))) = true := by kernel_rfl
theorem k30 : ((Rows.shellRunsRow.pinned == Rows.shellRunsRow.pinnedBy)) = true := by kernel_rfl
theorem k31 : ((Rows.shellRunsRow.veiled == (Tryz.f6.params.toList ++ ((OpenSpec.ofChange Rows.shellRunsSpec).bare).plain.varTypes Tryz.prog ++ Tryz.f6.resultTypes.toList).any (Tryz.prog.veiledRec ·))) = true := by kernel_rfl
theorem k32 : (Rows.shellRunsRow.veiledFits Tryz.prog Tryz.f6.params.toList (Tryz.f6.params.toList ++ ((OpenSpec.ofChange Rows.shellRunsSpec).bare).plain.varTypes Tryz.prog ++ Tryz.f6.resultTypes.toList)) = true := by kernel_rfl
theorem andT {a b : Bool} (h : a = true) (h' : b = true) : (a && b) = true := by rw [h, h']; rfl
theorem closed : joinedFacts Tryz.prog 6 Tryz.f6 (OpenSpec.ofChange Rows.shellRunsSpec).bare Rows.shellRunsRow = true := andT (andT (andT (andT (andT (andT (andT (andT (andT (andT (andT (andT (andT (andT (andT (andT (andT (andT (andT (andT (andT (andT (andT (andT (andT (andT (andT (andT (andT (andT (andT k1 k2) k3) k4) k5) k6) k7) k8) k9) k10) k11) k12) k13) k14) k15) k16) k17) k18) k19) k20) k21) k22) k23) k24) k25) k26) k27) k28) k29) k30) k31) k32
theorem named_fn : Tryz.pinned.checked.prog.funcNamed Rows.shellRunsRow.func = some 6 := by kernel_rfl
theorem inst : Tryz.f6.isInstance Tryz.pinned.checked.prog Rows.shellRunsRow.origin Rows.shellRunsRow.targs := of_decide_eq_true (by kernel_rfl)
theorem wrapper : Tryz.f6.isWrapper Tryz.pinned.checked.prog Rows.shellRunsRow.wrapper Rows.shellRunsRow.mainSum := by unfold Func.isWrapper; first | (rw [if_pos (by decide +kernel)]; kernel_rfl) | (rw [if_neg (by decide +kernel)]; exact ⟨rfl, rfl⟩)
end Go.Proofs.YtabllakilkjhkaaGreatDoor.shellRuns
