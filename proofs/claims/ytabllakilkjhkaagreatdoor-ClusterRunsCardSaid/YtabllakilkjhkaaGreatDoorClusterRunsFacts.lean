/- The closed facts of the row ClusterRuns, each by itself. -/
import Derived.Test.YtabllakilkjhkaaGreatDoorRows
import Derived.JoinedCond
namespace Go.Proofs.YtabllakilkjhkaaGreatDoor.clusterRuns
set_option maxRecDepth 100000
theorem k1 : ((Rows.clusterRunsRow).wf (OpenSpec.ofChange ((OpenSpec.ofChange Rows.clusterRunsSpec).bare))) = true := by kernel_rfl
theorem k2 : (laidOutB Tryz.prog) = true := by kernel_rfl
theorem k3 : (mapsRowed Tryz.prog) = true := by kernel_rfl
theorem k4 : (Tryz.f4.params.all ((Tryz.prog).readableRec ·)) = true := by kernel_rfl
theorem k5 : (namedTie Tryz.prog Rows.clusterRunsRow.named ((OpenSpec.ofChange Rows.clusterRunsSpec).bare).vars) = true := by kernel_rfl
theorem k6 : ((Rows.clusterRunsRow.stops == [])) = true := by kernel_rfl
theorem k7 : ((Tryz.prog.stops == [])) = true := by kernel_rfl
theorem k8 : ((Rows.clusterRunsRow.knobs == [])) = true := by kernel_rfl
theorem k9 : ((Tryz.prog.stopKnobs == [])) = true := by kernel_rfl
theorem k10 : ((Rows.clusterRunsRow.inPlace == Tryz.prog.inPlace 4)) = true := by kernel_rfl
theorem k11 : ((Rows.clusterRunsRow.unfollowed == Tryz.prog.unfollowed 4)) = true := by kernel_rfl
theorem k12 : ((Rows.clusterRunsRow.recurses == Tryz.prog.recurses 4)) = true := by kernel_rfl
theorem k13 : ((Rows.clusterRunsRow.named == Tryz.prog.varsNamed 4)) = true := by kernel_rfl
theorem k14 : ((Rows.clusterRunsRow.maps == (Tryz.f4.params.toList ++ ((OpenSpec.ofChange Rows.clusterRunsSpec).bare).plain.varTypes Tryz.prog).any (Tryz.prog.mapsRec ·))) = true := by kernel_rfl
theorem k15 : ((Rows.clusterRunsRow.ifaces == (Tryz.f4.params.toList ++ ((OpenSpec.ofChange Rows.clusterRunsSpec).bare).plain.varTypes Tryz.prog).any (Tryz.prog.ifacesRec ·))) = true := by kernel_rfl
theorem k16 : ((Rows.clusterRunsRow.mapsOut == Tryz.prog.mapsAmong Tryz.f4.resultTypes.toList)) = true := by kernel_rfl
theorem k17 : ((Rows.clusterRunsRow.loops == (Tryz.f4.params.toList ++ ((OpenSpec.ofChange Rows.clusterRunsSpec).bare).plain.varTypes Tryz.prog).any (Tryz.prog.loopsFrom ·))) = true := by kernel_rfl
theorem k18 : ((Rows.clusterRunsRow.wideKeys == (Tryz.f4.params.toList ++ ((OpenSpec.ofChange Rows.clusterRunsSpec).bare).plain.varTypes Tryz.prog ++ Tryz.f4.resultTypes.toList).any (Tryz.prog.wideKeysFrom ·))) = true := by kernel_rfl
theorem k19 : (((OpenSpec.ofChange Rows.clusterRunsSpec).bare).vars.all (Tryz.prog.varReadable ·)) = true := by kernel_rfl
theorem k20 : (Tryz.f4.resultTypes.all (fun t => Tryz.prog.readableRec t && decide (t < Tryz.prog.types.size))) = true := by kernel_rfl
theorem k21 : ((Rows.clusterRunsRow.ifacesOut == Tryz.f4.resultTypes.toList.any (Tryz.prog.ifacesRec ·))) = true := by kernel_rfl
theorem k22 : ((Rows.clusterRunsRow.loopsOut == Tryz.f4.resultTypes.toList.any (Tryz.prog.loopsFrom ·))) = true := by kernel_rfl
theorem k23 : ((Rows.clusterRunsRow.plainKeys == Tryz.prog.plainKeys)) = true := by kernel_rfl
theorem k24 : (Rows.clusterRunsRow.shortTexts.isNone) = true := by kernel_rfl
theorem k25 : (Tryz.prog.stopsHeard) = true := by kernel_rfl
theorem k26 : (Tryz.prog.mayEnter) = true := by kernel_rfl
theorem k27 : ((Rows.clusterRunsRow.lifted == Tryz.prog.liftsFinal)) = true := by kernel_rfl
theorem k28 : ((Tryz.prog.make == some Rows.clusterRunsRow.make)) = true := by kernel_rfl
theorem k29 : ((Rows.clusterRunsRow.kinds == (if Rows.clusterRunsRow.domain.isEmpty then [] else Tryz.f4.params.toList.map fun t => match Tryz.prog.underlying t with | some (.int k) => some k | _ => none))) = true := by kernel_rfl
theorem k30 : ((Rows.clusterRunsRow.pinned == Rows.clusterRunsRow.pinnedBy)) = true := by kernel_rfl
theorem k31 : ((Rows.clusterRunsRow.veiled == (Tryz.f4.params.toList ++ ((OpenSpec.ofChange Rows.clusterRunsSpec).bare).plain.varTypes Tryz.prog ++ Tryz.f4.resultTypes.toList).any (Tryz.prog.veiledRec ·))) = true := by kernel_rfl
theorem k32 : (Rows.clusterRunsRow.veiledFits Tryz.prog Tryz.f4.params.toList (Tryz.f4.params.toList ++ ((OpenSpec.ofChange Rows.clusterRunsSpec).bare).plain.varTypes Tryz.prog ++ Tryz.f4.resultTypes.toList)) = true := by kernel_rfl
theorem andT {a b : Bool} (h : a = true) (h' : b = true) : (a && b) = true := by rw [h, h']; rfl
theorem closed : joinedFacts Tryz.prog 4 Tryz.f4 (OpenSpec.ofChange Rows.clusterRunsSpec).bare Rows.clusterRunsRow = true := andT (andT (andT (andT (andT (andT (andT (andT (andT (andT (andT (andT (andT (andT (andT (andT (andT (andT (andT (andT (andT (andT (andT (andT (andT (andT (andT (andT (andT (andT (andT k1 k2) k3) k4) k5) k6) k7) k8) k9) k10) k11) k12) k13) k14) k15) k16) k17) k18) k19) k20) k21) k22) k23) k24) k25) k26) k27) k28) k29) k30) k31) k32
theorem named_fn : Tryz.pinned.checked.prog.funcNamed Rows.clusterRunsRow.func = some 4 := by kernel_rfl
theorem inst : Tryz.f4.isInstance Tryz.pinned.checked.prog Rows.clusterRunsRow.origin Rows.clusterRunsRow.targs := of_decide_eq_true (by kernel_rfl)
theorem wrapper : Tryz.f4.isWrapper Tryz.pinned.checked.prog Rows.clusterRunsRow.wrapper Rows.clusterRunsRow.mainSum := by unfold Func.isWrapper; first | (rw [if_pos (by decide +kernel)]; kernel_rfl) | (rw [if_neg (by decide +kernel)]; exact ⟨rfl, rfl⟩)
end Go.Proofs.YtabllakilkjhkaaGreatDoor.clusterRuns
