/- The closed facts of the row TaskFails, each by itself. -/
import Derived.Test.YtdhljfjmalphiaaDoorRows
import Derived.JoinedCond
namespace Go.Proofs.YtdhljfjmalphiaaDoor.taskFails
set_option maxRecDepth 100000
theorem k1 : ((Rows.taskFailsRow).wf (OpenSpec.ofChange ((OpenSpec.ofChange Rows.taskFailsSpec).bare))) = true := by kernel_rfl
theorem k2 : (laidOutB Tryd.prog) = true := by kernel_rfl
theorem k3 : (mapsRowed Tryd.prog) = true := by kernel_rfl
theorem k4 : (Tryd.f4.params.all ((Tryd.prog).readableRec ·)) = true := by kernel_rfl
theorem k5 : (namedTie Tryd.prog Rows.taskFailsRow.named ((OpenSpec.ofChange Rows.taskFailsSpec).bare).vars) = true := by kernel_rfl
theorem k6 : ((Rows.taskFailsRow.stops == [])) = true := by kernel_rfl
theorem k7 : ((Tryd.prog.stops == [])) = true := by kernel_rfl
theorem k8 : ((Rows.taskFailsRow.knobs == [])) = true := by kernel_rfl
theorem k9 : ((Tryd.prog.stopKnobs == [])) = true := by kernel_rfl
theorem k10 : ((Rows.taskFailsRow.inPlace == Tryd.prog.inPlace 4)) = true := by kernel_rfl
theorem k11 : ((Rows.taskFailsRow.unfollowed == Tryd.prog.unfollowed 4)) = true := by kernel_rfl
theorem k12 : ((Rows.taskFailsRow.recurses == Tryd.prog.recurses 4)) = true := by kernel_rfl
theorem k13 : ((Rows.taskFailsRow.named == Tryd.prog.varsNamed 4)) = true := by kernel_rfl
theorem k14 : ((Rows.taskFailsRow.maps == (Tryd.f4.params.toList ++ ((OpenSpec.ofChange Rows.taskFailsSpec).bare).plain.varTypes Tryd.prog).any (Tryd.prog.mapsRec ·))) = true := by kernel_rfl
theorem k15 : ((Rows.taskFailsRow.ifaces == (Tryd.f4.params.toList ++ ((OpenSpec.ofChange Rows.taskFailsSpec).bare).plain.varTypes Tryd.prog).any (Tryd.prog.ifacesRec ·))) = true := by kernel_rfl
theorem k16 : ((Rows.taskFailsRow.mapsOut == Tryd.prog.mapsAmong Tryd.f4.resultTypes.toList)) = true := by kernel_rfl
theorem k17 : ((Rows.taskFailsRow.loops == (Tryd.f4.params.toList ++ ((OpenSpec.ofChange Rows.taskFailsSpec).bare).plain.varTypes Tryd.prog).any (Tryd.prog.loopsFrom ·))) = true := by kernel_rfl
theorem k18 : ((Rows.taskFailsRow.wideKeys == (Tryd.f4.params.toList ++ ((OpenSpec.ofChange Rows.taskFailsSpec).bare).plain.varTypes Tryd.prog ++ Tryd.f4.resultTypes.toList).any (Tryd.prog.wideKeysFrom ·))) = true := by kernel_rfl
theorem k19 : (((OpenSpec.ofChange Rows.taskFailsSpec).bare).vars.all (Tryd.prog.varReadable ·)) = true := by kernel_rfl
theorem k20 : (Tryd.f4.resultTypes.all (fun t => Tryd.prog.readableRec t && decide (t < Tryd.prog.types.size))) = true := by kernel_rfl
theorem k21 : ((Rows.taskFailsRow.ifacesOut == Tryd.f4.resultTypes.toList.any (Tryd.prog.ifacesRec ·))) = true := by kernel_rfl
theorem k22 : ((Rows.taskFailsRow.loopsOut == Tryd.f4.resultTypes.toList.any (Tryd.prog.loopsFrom ·))) = true := by kernel_rfl
theorem k23 : ((Rows.taskFailsRow.plainKeys == Tryd.prog.plainKeys)) = true := by kernel_rfl
theorem k24 : (Rows.taskFailsRow.shortTexts.isNone) = true := by kernel_rfl
theorem k25 : (Tryd.prog.stopsHeard) = true := by kernel_rfl
theorem k26 : (Tryd.prog.mayEnter) = true := by kernel_rfl
theorem k27 : ((Rows.taskFailsRow.lifted == Tryd.prog.liftsFinal)) = true := by kernel_rfl
theorem k28 : ((Tryd.prog.make == some Rows.taskFailsRow.make)) = true := by kernel_rfl
theorem k29 : ((Rows.taskFailsRow.kinds == (if Rows.taskFailsRow.domain.isEmpty then [] else Tryd.f4.params.toList.map fun t => match Tryd.prog.underlying t with | some (.int k) => some k | _ => none))) = true := by kernel_rfl
theorem k30 : ((Rows.taskFailsRow.pinned == Rows.taskFailsRow.pinnedBy)) = true := by kernel_rfl
theorem k31 : ((Rows.taskFailsRow.veiled == (Tryd.f4.params.toList ++ ((OpenSpec.ofChange Rows.taskFailsSpec).bare).plain.varTypes Tryd.prog ++ Tryd.f4.resultTypes.toList).any (Tryd.prog.veiledRec ·))) = true := by kernel_rfl
theorem k32 : (Rows.taskFailsRow.veiledFits Tryd.prog Tryd.f4.params.toList (Tryd.f4.params.toList ++ ((OpenSpec.ofChange Rows.taskFailsSpec).bare).plain.varTypes Tryd.prog ++ Tryd.f4.resultTypes.toList)) = true := by kernel_rfl
theorem andT {a b : Bool} (h : a = true) (h' : b = true) : (a && b) = true := by rw [h, h']; rfl
theorem closed : joinedFacts Tryd.prog 4 Tryd.f4 (OpenSpec.ofChange Rows.taskFailsSpec).bare Rows.taskFailsRow = true := andT (andT (andT (andT (andT (andT (andT (andT (andT (andT (andT (andT (andT (andT (andT (andT (andT (andT (andT (andT (andT (andT (andT (andT (andT (andT (andT (andT (andT (andT (andT k1 k2) k3) k4) k5) k6) k7) k8) k9) k10) k11) k12) k13) k14) k15) k16) k17) k18) k19) k20) k21) k22) k23) k24) k25) k26) k27) k28) k29) k30) k31) k32
theorem named_fn : Tryd.pinned.checked.prog.funcNamed Rows.taskFailsRow.func = some 4 := by kernel_rfl
theorem inst : Tryd.f4.isInstance Tryd.pinned.checked.prog Rows.taskFailsRow.origin Rows.taskFailsRow.targs := of_decide_eq_true (by kernel_rfl)
theorem wrapper : Tryd.f4.isWrapper Tryd.pinned.checked.prog Rows.taskFailsRow.wrapper Rows.taskFailsRow.mainSum := by unfold Func.isWrapper; first | (rw [if_pos (by decide +kernel)]; kernel_rfl) | (rw [if_neg (by decide +kernel)]; exact ⟨rfl, rfl⟩)
end Go.Proofs.YtdhljfjmalphiaaDoor.taskFails
