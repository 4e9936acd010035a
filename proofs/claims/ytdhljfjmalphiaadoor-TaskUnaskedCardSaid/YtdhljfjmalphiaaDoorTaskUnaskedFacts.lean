/- The closed facts of the row TaskUnasked, each by itself. -/
import Derived.Test.YtdhljfjmalphiaaDoorRows
import Derived.JoinedCond
namespace Go.Proofs.YtdhljfjmalphiaaDoor.taskUnasked
set_option maxRecDepth 100000
theorem k1 : ((Rows.taskUnaskedRow).wf (OpenSpec.ofChange ((OpenSpec.ofChange Rows.taskUnaskedSpec).bare))) = true := by kernel_rfl
theorem k2 : (laidOutB Tryd.prog) = true := by kernel_rfl
theorem k3 : (mapsRowed Tryd.prog) = true := by kernel_rfl
theorem k4 : (Tryd.f3.params.all ((Tryd.prog).readableRec ·)) = true := by kernel_rfl
theorem k5 : (namedTie Tryd.prog Rows.taskUnaskedRow.named ((OpenSpec.ofChange Rows.taskUnaskedSpec).bare).vars) = true := by kernel_rfl
theorem k6 : ((Rows.taskUnaskedRow.stops == [])) = true := by kernel_rfl
theorem k7 : ((Tryd.prog.stops == [])) = true := by kernel_rfl
theorem k8 : ((Rows.taskUnaskedRow.knobs == [])) = true := by kernel_rfl
theorem k9 : ((Tryd.prog.stopKnobs == [])) = true := by kernel_rfl
theorem k10 : ((Rows.taskUnaskedRow.inPlace == Tryd.prog.inPlace 3)) = true := by kernel_rfl
theorem k11 : ((Rows.taskUnaskedRow.unfollowed == Tryd.prog.unfollowed 3)) = true := by kernel_rfl
theorem k12 : ((Rows.taskUnaskedRow.recurses == Tryd.prog.recurses 3)) = true := by kernel_rfl
theorem k13 : ((Rows.taskUnaskedRow.named == Tryd.prog.varsNamed 3)) = true := by kernel_rfl
theorem k14 : ((Rows.taskUnaskedRow.maps == (Tryd.f3.params.toList ++ ((OpenSpec.ofChange Rows.taskUnaskedSpec).bare).plain.varTypes Tryd.prog).any (Tryd.prog.mapsRec ·))) = true := by kernel_rfl
theorem k15 : ((Rows.taskUnaskedRow.ifaces == (Tryd.f3.params.toList ++ ((OpenSpec.ofChange Rows.taskUnaskedSpec).bare).plain.varTypes Tryd.prog).any (Tryd.prog.ifacesRec ·))) = true := by kernel_rfl
theorem k16 : ((Rows.taskUnaskedRow.mapsOut == Tryd.prog.mapsAmong Tryd.f3.resultTypes.toList)) = true := by kernel_rfl
theorem k17 : ((Rows.taskUnaskedRow.loops == (Tryd.f3.params.toList ++ ((OpenSpec.ofChange Rows.taskUnaskedSpec).bare).plain.varTypes Tryd.prog).any (Tryd.prog.loopsFrom ·))) = true := by kernel_rfl
theorem k18 : ((Rows.taskUnaskedRow.wideKeys == (Tryd.f3.params.toList ++ ((OpenSpec.ofChange Rows.taskUnaskedSpec).bare).plain.varTypes Tryd.prog ++ Tryd.f3.resultTypes.toList).any (Tryd.prog.wideKeysFrom ·))) = true := by kernel_rfl
theorem k19 : (((OpenSpec.ofChange Rows.taskUnaskedSpec).bare).vars.all (Tryd.prog.varReadable ·)) = true := by kernel_rfl
theorem k20 : (Tryd.f3.resultTypes.all (fun t => Tryd.prog.readableRec t && decide (t < Tryd.prog.types.size))) = true := by kernel_rfl
theorem k21 : ((Rows.taskUnaskedRow.ifacesOut == Tryd.f3.resultTypes.toList.any (Tryd.prog.ifacesRec ·))) = true := by kernel_rfl
theorem k22 : ((Rows.taskUnaskedRow.loopsOut == Tryd.f3.resultTypes.toList.any (Tryd.prog.loopsFrom ·))) = true := by kernel_rfl
theorem k23 : ((Rows.taskUnaskedRow.plainKeys == Tryd.prog.plainKeys)) = true := by kernel_rfl
theorem k24 : (Rows.taskUnaskedRow.shortTexts.isNone) = true := by kernel_rfl
theorem k25 : (Tryd.prog.stopsHeard) = true := by kernel_rfl
theorem k26 : (Tryd.prog.mayEnter) = true := by kernel_rfl
theorem k27 : ((Rows.taskUnaskedRow.lifted == Tryd.prog.liftsFinal)) = true := by kernel_rfl
theorem k28 : ((Tryd.prog.make == some Rows.taskUnaskedRow.make)) = true := by kernel_rfl
theorem k29 : ((Rows.taskUnaskedRow.kinds == (if Rows.taskUnaskedRow.domain.isEmpty then [] else Tryd.f3.params.toList.map fun t => match Tryd.prog.underlying t with | some (.int k) => some k | _ => none))) = true := by kernel_rfl
theorem k30 : ((Rows.taskUnaskedRow.pinned == Rows.taskUnaskedRow.pinnedBy)) = true := by kernel_rfl
theorem k31 : ((Rows.taskUnaskedRow.veiled == (Tryd.f3.params.toList ++ ((OpenSpec.ofChange Rows.taskUnaskedSpec).bare).plain.varTypes Tryd.prog ++ Tryd.f3.resultTypes.toList).any (Tryd.prog.veiledRec ·))) = true := by kernel_rfl
theorem k32 : (Rows.taskUnaskedRow.veiledFits Tryd.prog Tryd.f3.params.toList (Tryd.f3.params.toList ++ ((OpenSpec.ofChange Rows.taskUnaskedSpec).bare).plain.varTypes Tryd.prog ++ Tryd.f3.resultTypes.toList)) = true := by kernel_rfl
theorem andT {a b : Bool} (h : a = true) (h' : b = true) : (a && b) = true := by rw [h, h']; rfl
theorem closed : joinedFacts Tryd.prog 3 Tryd.f3 (OpenSpec.ofChange Rows.taskUnaskedSpec).bare Rows.taskUnaskedRow = true := andT (andT (andT (andT (andT (andT (andT (andT (andT (andT (andT (andT (andT (andT (andT (andT (andT (andT (andT (andT (andT (andT (andT (andT (andT (andT (andT (andT (andT (andT (andT k1 k2) k3) k4) k5) k6) k7) k8) k9) k10) k11) k12) k13) k14) k15) k16) k17) k18) k19) k20) k21) k22) k23) k24) k25) k26) k27) k28) k29) k30) k31) k32
theorem named_fn : Tryd.pinned.checked.prog.funcNamed Rows.taskUnaskedRow.func = some 3 := by kernel_rfl
theorem inst : Tryd.f3.isInstance Tryd.pinned.checked.prog Rows.taskUnaskedRow.origin Rows.taskUnaskedRow.targs := of_decide_eq_true (by kernel_rfl)
theorem wrapper : Tryd.f3.isWrapper Tryd.pinned.checked.prog Rows.taskUnaskedRow.wrapper Rows.taskUnaskedRow.mainSum := by unfold Func.isWrapper; first | (rw [if_pos (by decide +kernel)]; kernel_rfl) | (rw [if_neg (by decide +kernel)]; exact ⟨rfl, rfl⟩)
end Go.Proofs.YtdhljfjmalphiaaDoor.taskUnasked
