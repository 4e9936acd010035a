/- The closed facts of the row CalmRuns, each by itself. -/
import Derived.Test.YtabllakilkjhkaaGreatDoorRows
import Derived.JoinedCond
namespace Go.Proofs.YtabllakilkjhkaaGreatDoor.calmRuns
set_option maxRecDepth 100000
theorem k1 : ((Rows.calmRunsRow).wf (OpenSpec.ofChange ((OpenSpec.ofChange Rows.calmRunsSpec).bare))) = true := by kernel_rfl
theorem k2 : (laidOutB Tryz.prog) = true := by kernel_rfl
theorem k3 : (mapsRowed Tryz.prog) = true := by kernel_rfl
theorem k4 : (Tryz.f5.params.all ((Tryz.prog).readableRec ·)) = true := by kernel_rfl
theorem k5 : (namedTie Tryz.prog Rows.calmRunsRow.named ((OpenSpec.ofChange Rows.calmRunsSpec).bare).vars) = true := by kernel_rfl
theorem k6 : ((Rows.calmRunsRow.stops == [])) = true := by kernel_rfl
theorem k7 : ((Tryz.prog.stops == [])) = true := by kernel_rfl
theorem k8 : ((Rows.calmRunsRow.knobs == [])) = true := by kernel_rfl
theorem k9 : ((Tryz.prog.stopKnobs == [])) = true := by kernel_rfl
theorem k10 : ((Rows.calmRunsRow.inPlace == Tryz.prog.inPlace 5)) = true := by kernel_rfl
theorem k11 : ((Rows.calmRunsRow.unfollowed == Tryz.prog.unfollowed 5)) = true := by kernel_rfl
theorem k12 : ((Rows.calmRunsRow.recurses == Tryz.prog.recurses 5)) = true := by kernel_rfl
theorem k13 : ((Rows.calmRunsRow.named == Tryz.prog.varsNamed 5)) = true := by kernel_rfl
theorem k14 : ((Rows.calmRunsRow.maps == (Tryz.f5.params.toList ++ ((OpenSpec.ofChange Rows.calmRunsSpec).bare).plain.varTypes Tryz.prog).any (Tryz.prog.mapsRec ·))) = true := by kernel_rfl
theorem k15 : ((Rows.calmRunsRow.ifaces == (Tryz.f5.params.toList ++ ((OpenSpec.ofChange Rows.calmRunsSpec).bare).plain.varTypes Tryz.prog).any (Tryz.prog.ifacesRec ·))) = true := by kernel_rfl
theorem k16 : ((Rows.calmRunsRow.mapsOut == Tryz.prog.mapsAmong Tryz.f5.resultTypes.toList)) = true := by kernel_rfl
theorem k17 : ((Rows.calmRunsRow.loops == (Tryz.f5.params.toList ++ ((OpenSpec.ofChange Rows.calmRunsSpec).bare).plain.varTypes Tryz.prog).any (Tryz.prog.loopsFrom ·))) = true := by kernel_rfl
theorem k18 : ((Rows.calmRunsRow.wideKeys == (Tryz.f5.params.toList ++ ((OpenSpec.ofChange Rows.calmRunsSpec).bare).plain.varTypes Tryz.prog ++ Tryz.f5.resultTypes.toList).any (Tryz.prog.wideKeysFrom ·))) = true := by kernel_rfl
theorem k19 : (((OpenSpec.ofChange Rows.calmRunsSpec).bare).vars.all (Tryz.prog.varReadable ·)) = true := by kernel_rfl
theorem k20 : (Tryz.f5.resultTypes.all (fun t => Tryz.prog.readableRec t && decide (t < Tryz.prog.types.size))) = true := by kernel_rfl
theorem k21 : ((Rows.calmRunsRow.ifacesOut == Tryz.f5.resultTypes.toList.any (Tryz.prog.ifacesRec ·))) = true := by kernel_rfl
theorem k22 : ((Rows.calmRunsRow.loopsOut == Tryz.f5.resultTypes.toList.any (Tryz.prog.loopsFrom ·))) = true := by kernel_rfl
theorem k23 : ((Rows.calmRunsRow.plainKeys == Tryz.prog.plainKeys)) = true := by kernel_rfl
theorem k24 : (Rows.calmRunsRow.shortTexts.isNone) = true := by kernel_rfl
theorem k25 : (Tryz.prog.stopsHeard) = true := by kernel_rfl
theorem k26 : (Tryz.prog.mayEnter) = true := by kernel_rfl
theorem k27 : ((Rows.calmRunsRow.lifted == Tryz.prog.liftsFinal)) = true := by kernel_rfl
theorem k28 : ((Tryz.prog.make == some Rows.calmRunsRow.make)) = true := by kernel_rfl
theorem k29 : ((Rows.calmRunsRow.kinds == (if Rows.calmRunsRow.domain.isEmpty then [] else Tryz.f5.params.toList.map fun t => match Tryz.prog.underlying t with | some (.int k) => some k | _ => none))) = true := by kernel_rfl
theorem k30 : ((Rows.calmRunsRow.pinned == Rows.calmRunsRow.pinnedBy)) = true := by kernel_rfl
theorem k31 : ((Rows.calmRunsRow.veiled == (Tryz.f5.params.toList ++ ((OpenSpec.ofChange Rows.calmRunsSpec).bare).plain.varTypes Tryz.prog ++ Tryz.f5.resultTypes.toList).any (Tryz.prog.veiledRec ·))) = true := by kernel_rfl
theorem k32 : (Rows.calmRunsRow.veiledFits Tryz.prog Tryz.f5.params.toList (Tryz.f5.params.toList ++ ((OpenSpec.ofChange Rows.calmRunsSpec).bare).plain.varTypes Tryz.prog ++ Tryz.f5.resultTypes.toList)) = true := by kernel_rfl
theorem andT {a b : Bool} (h : a = true) (h' : b = true) : (a && b) = true := by rw [h, h']; rfl
theorem closed : joinedFacts Tryz.prog 5 Tryz.f5 (OpenSpec.ofChange Rows.calmRunsSpec).bare Rows.calmRunsRow = true := andT (andT (andT (andT (andT (andT (andT (andT (andT (andT (andT (andT (andT (andT (andT (andT (andT (andT (andT (andT (andT (andT (andT (andT (andT (andT (andT (andT (andT (andT (andT k1 k2) k3) k4) k5) k6) k7) k8) k9) k10) k11) k12) k13) k14) k15) k16) k17) k18) k19) k20) k21) k22) k23) k24) k25) k26) k27) k28) k29) k30) k31) k32
theorem named_fn : Tryz.pinned.checked.prog.funcNamed Rows.calmRunsRow.func = some 5 := by kernel_rfl
theorem inst : Tryz.f5.isInstance Tryz.pinned.checked.prog Rows.calmRunsRow.origin Rows.calmRunsRow.targs := of_decide_eq_true (by kernel_rfl)
theorem wrapper : Tryz.f5.isWrapper Tryz.pinned.checked.prog Rows.calmRunsRow.wrapper Rows.calmRunsRow.mainSum := by unfold Func.isWrapper; first | (rw [if_pos (by decide +kernel)]; kernel_rfl) | (rw [if_neg (by decide +kernel)]; exact ⟨rfl, rfl⟩)
end Go.Proofs.YtabllakilkjhkaaGreatDoor.calmRuns
