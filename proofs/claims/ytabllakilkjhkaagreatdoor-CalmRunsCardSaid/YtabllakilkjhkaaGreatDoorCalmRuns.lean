/- PROVED: the closed sentence CalmRuns: its function, called in whatever memory and on every schedule, returns true, and nothing that was in memory is changed.
   CONDITIONS: the row's own: the listed tables of Go's library read, when the call begins, as the program's text lays them (the card ties them to the text; over a pruned copy of the project). -/
import Derived.Test.YtabllakilkjhkaaGreatDoorCards
import Derived.Test.YtabllakilkjhkaaGreatDoorTie
import Derived.Test.YtabllakilkjhkaaGreatDoorCalmRunsFacts
import Derived.Test.YtabllakilkjhkaaGreatDoorCalmRun
import Derived.Lib.LaidTab
namespace Go.Proofs.YtabllakilkjhkaaGreatDoor.calmRuns
open Go.ChangeShapes Go.WideShapes Go.ChangeAt Go.RowKit Go.Ai

theorem own : ownKnob Tryz.prog.godebug = none := by kernel_rfl

theorem walk (W : World) : Calls Tryz.prog 5 #[] W fun e W' => e = .returned (.bool true) ∧ (∀ cb, cb < W.heap.size → W'.heap[cb]? = W.heap[cb]?) ∧ W.heap.size ≤ W'.heap.size ∧ W'.os = W.os ∧ W'.output = W.output := by
  obtain ⟨s1, h1⟩ := Tab.gives_ok Tab.calm_run
  refine (closed_run (Tab.call2 60) h1 rfl W).mono fun e W' ⟨cv, he, hv, hr⟩ => ⟨?_, hr⟩
  simp only [VR] at hv
  rw [he, hv]

theorem contract (H : Type) (enc : TypeId × Value → H) (W : World) (args : Array Value) (ds gs : List (DataW H)) (before : List MemPlace)
    (hW : DataW.Whole enc Tryz.prog Tryz.f5.params.toList Rows.calmRunsSpec.vars false W args.toList ds gs before) :
    Calls Tryz.prog 5 args W fun e W' => ∃ v, e = .returned v ∧ Rows.calmRunsSpec.post enc Tryz.prog Tryz.f5 false true false false W args v W' := by
  have hW' := hW
  obtain ⟨p, q, hA0, hV, rfl, hfz, hnd⟩ := hW
  have hA1 := hA0
  rw [Tryz.params5] at hA1
  obtain ⟨hvs, hds, hp⟩ := trodAll_nil hA1
  obtain rfl : args = #[] := by cases args; simp_all
  subst hds; subst hp
  obtain ⟨rfl, rfl⟩ := trodVars_none hV
  refine (walk W).mono fun e W' ⟨he, hh, hs, ho, hu⟩ => ?_
  subst he
  refine ⟨_, rfl, [], [], [], [], [], [], hW', trodAll_cons_mk (shut_bool Tryz.underlying4 _) trodAll_mk0, ?_, rfl, kept_of hh ho hu _, fun h => by cases h⟩
  rw [Tryz.params5]
  exact trodAll_mk0

def cellsOf' : DataW Unit → Array Value
  | .agg l => (l.map fun
    | .lit (.int k n) => Value.int k n
    | _ => undef).toArray
  | _ => #[]
def layAt (g : Nat) (c : Array Value) (w : World) : World :=
  { w with heap := w.heap.modify g fun
      | .cells _ t frozen => .cells c t frozen
      | o => o }
noncomputable def laidWorld (os : Os) : World :=
  layAt 0 (cellsOf' Rows.laid_internal_strconv_uint64pow10) (layAt 6 (cellsOf' Rows.laid_math_bits_deBruijn32tab) (layAt 7 (cellsOf' Rows.laid_math_bits_deBruijn64tab) (World.holding Tryz.prog os ⟨#[], #[], []⟩)))
theorem laid_met (os : Os) : laidMet Tryz.prog Rows.calmRunsRow.laid ((laidWorld os).forCall (fun _ _ => 0) ⟨#[], #[], []⟩).memory :=
  laidMet_of_run' 8 (by kernel_rfl) (by kernel_rfl)
theorem reads (os : Os) {H : Type} (enc : TypeId × Value → H) : ∃ places, DataW.whole enc Tryz.prog ((laidWorld os).forCall (fun _ _ => 0) ⟨#[], #[], []⟩).memory Tryz.f5.params.toList Rows.calmRunsSpec.vars false (#[] : Array Value).toList 8 = some ([], [], places) :=
  ⟨[], by kernel_rfl⟩

set_option maxRecDepth 100000 in
theorem lifted (os : Os) (started : os.Started) (H : Type) (enc : TypeId × Value → H) (F : Stop.Interp) :
    ReturnsInHanded {} Tryz.checked os 5 .any ((OpenSpec.ofChange Rows.calmRunsSpec).preRow enc Tryz.prog Tryz.f5 Rows.calmRunsRow.domain false Rows.calmRunsRow.laid) (((OpenSpec.ofChange Rows.calmRunsSpec).at F).post enc Tryz.prog Tryz.f5 false true false false) := by
  obtain ⟨places, hx⟩ := reads os enc
  refine returnsInHanded_of_row (C := Tryz.checked) (s := OpenSpec.ofChange Rows.calmRunsSpec) own started (by kernel_rfl) Tryz.func5
    (witness_row_at (enc := enc) (C := Tryz.checked) false (laidWorld os) #[] rfl (by kernel_rfl) (by kernel_rfl) (by kernel_rfl)
      (OpenSpec.preRow_of_cond 8 hx (by kernel_rfl) (fun k hk => by cases hk) (by kernel_rfl) (laid_met os))) ?_
  intro W base args ds gs before hval hW _ _ _ hL _ _
  exact contract H enc W args ds gs before hW

theorem said : Rows.CalmRunsSaid :=
  OpenClaim.holds_of_cond 5 Tryz.f5 rfl rfl rfl rfl rfl rfl rfl ⟨rfl, rfl, rfl, rfl, rfl⟩ rfl rfl rfl rfl rfl named_fn Tryz.func5 closed inst wrapper
    (fun os started H enc _ F => by rw [OpenClaim.pre_eq_preRow]; exact lifted os started H enc F)

theorem looks0 : Tryz.pinned.checked.prog.looks [] = true := by kernel_rfl

theorem plain (f : FuncId) (fn : Func) (hf : Tryz.pinned.checked.prog.funcNamed Rows.calmRunsRow.func = some f) (hfn : Tryz.pinned.checked.prog.funcs[f]? = some fn) :
    true = Tryz.pinned.checked.prog.looks [] ∧ ∀ (j : Nat) t, fn.params[j]? = some t → Tryz.pinned.checked.prog.wantsStandIn t = false := by
  obtain rfl : f = 5 := Option.some.inj (named_fn.symm.trans hf) |>.symm
  obtain rfl : fn = Tryz.f5 := (Option.some.inj (Tryz.func5.symm.trans hfn)).symm
  refine ⟨looks0.symm, fun j t ht => ?_⟩
  rw [Tryz.params5] at ht
  simp at ht

theorem card : Rows.CalmRunsCardSaid :=
  Claim7.holds_tied_plain_at .later [] _ _ _ _ said (fun _ h => by cases h) (by kernel_rfl) (fun _ h => by cases h) calmRuns_row_tie rfl ⟨rfl, rfl⟩ (by kernel_rfl) rfl plain (by kernel_rfl)
end Go.Proofs.YtabllakilkjhkaaGreatDoor.calmRuns
