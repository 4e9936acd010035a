/- PROVED: TaskFails: its function returns true at every argument, on every schedule, and nothing that was in memory is changed.
   CONDITIONS: the row's own: the listed tables of Go's library read, when the call begins, as the program's text lays them (the card ties them to the text; over a pruned copy of the project). -/
import Derived.Test.YtdhljfjmalphiaaDoorCards
import Derived.Test.YtdhljfjmalphiaaDoorTie
import Derived.Test.YtdhljfjmalphiaaDoorTaskFailsFacts
import Derived.Test.YtdhljfjmalphiaaDoorFailsW
import Derived.Lib.LaidTab
import Derived.ChangeMaps5
namespace Go.Proofs.YtdhljfjmalphiaaDoor.taskFails
open Go.ChangeShapes Go.WideShapes Go.ChangeAt Go.RowKit Go.ChangeMaps Go.Ai

theorem own : ownKnob Tryd.prog.godebug = none := by kernel_rfl

theorem par0 : Tryd.f4.params[0]? = some 3 := by rw [← Array.getElem?_toList, Tryd.params4]; rfl
theorem par1 : Tryd.f4.params[1]? = some 3 := by rw [← Array.getElem?_toList, Tryd.params4]; rfl
theorem par2 : Tryd.f4.params[2]? = some 9 := by rw [← Array.getElem?_toList, Tryd.params4]; rfl
theorem par3 : Tryd.f4.params[3]? = some 9 := by rw [← Array.getElem?_toList, Tryd.params4]; rfl
theorem par4 : Tryd.f4.params[4]? = some 3 := by rw [← Array.getElem?_toList, Tryd.params4]; rfl
set_option maxRecDepth 100000 in
theorem contract (H : Type) (enc : TypeId × Value → H) (W : World) (base : Nat) (args : Array Value) (ds gs : List (DataW H)) (before : List MemPlace)
    (hval : ∀ (j : Nat) t v, Tryd.f4.params[j]? = some t → args[j]? = some v → Value.okWide Tryd.prog W .any base t v)
    (hW : DataW.Whole enc Tryd.prog Tryd.f4.params.toList Rows.taskFailsSpec.vars false W args.toList ds gs before) :
    Calls Tryd.prog 4 args W fun e W' => ∃ v, e = .returned v ∧ Rows.taskFailsSpec.post enc Tryd.prog Tryd.f4 false true false false W args v W' := by
  have hW' := hW
  obtain ⟨p, q, hA0, hV, rfl, hfz, hnd⟩ := hW
  have hA1 := hA0
  rw [Tryd.params4] at hA1
  obtain ⟨w0, vs0, d0, ds0, p0, q0, e0, g0, r0, h0, hB0⟩ := trodAll_cons hA1
  obtain ⟨w1, vs1, d1, ds1, p1, q1, e1, g1, r1, h1, hB1⟩ := trodAll_cons hB0
  obtain ⟨w2, vs2, d2, ds2, p2, q2, e2, g2, r2, h2, hB2⟩ := trodAll_cons hB1
  obtain ⟨w3, vs3, d3, ds3, p3, q3, e3, g3, r3, h3, hB3⟩ := trodAll_cons hB2
  obtain ⟨w4, vs4, d4, ds4, p4, q4, e4, g4, r4, h4, hB4⟩ := trodAll_cons hB3
  obtain ⟨z1, z2, z3⟩ := trodAll_nil hB4
  subst z1; subst z2; subst z3
  subst e4; subst g4; subst r4
  subst e3; subst g3; subst r3
  subst e2; subst g2; subst r2
  subst e1; subst g1; subst r1
  subst g0
  obtain rfl : args = #[w0, w1, w2, w3, w4] := by apply Array.ext'; simpa using e0
  obtain ⟨x0, rfl, rfl, rfl, hs0⟩ := open_int Tryd.underlying3 (hval 0 _ w0 par0 rfl) h0
  obtain ⟨x1, rfl, rfl, rfl, hs1⟩ := open_int Tryd.underlying3 (hval 1 _ w1 par1 rfl) h1
  obtain ⟨x2, rfl, rfl, rfl, hs2⟩ := open_string Tryd.underlying9 (hval 2 _ w2 par2 rfl) h2
  obtain ⟨x3, rfl, rfl, rfl, hs3⟩ := open_string Tryd.underlying9 (hval 3 _ w3 par3 rfl) h3
  obtain ⟨x4, rfl, rfl, rfl, hs4⟩ := open_int Tryd.underlying3 (hval 4 _ w4 par4 rfl) h4
  obtain ⟨rfl, rfl⟩ := trodVars_none hV
  refine (Tab.taskFails_walk W x0 x1 x2 x3 x4 hs0 hs1 hs2 hs3 hs4).mono fun e W' ⟨he, hh, hs, ho, hu⟩ => ?_
  subst he
  refine ⟨_, rfl, [.lit (.int .i64 x0), .lit (.int .i64 x1), .lit (.string x2.data.toList), .lit (.string x3.data.toList), .lit (.int .i64 x4)], [], _, [], [], [], hW', trodAll_cons_mk (shut_bool Tryd.underlying4 _) trodAll_mk0, ?_, rfl, kept_of hh ho hu _, fun h => by cases h⟩
  rw [Tryd.params4]
  exact trodAll_cons_mk (shut_int Tryd.underlying3 hs0) (trodAll_cons_mk (shut_int Tryd.underlying3 hs1) (trodAll_cons_mk (Go.ChangeMaps.shut_string Tryd.underlying9 hs2) (trodAll_cons_mk (Go.ChangeMaps.shut_string Tryd.underlying9 hs3) (trodAll_cons_mk (shut_int Tryd.underlying3 hs4) (trodAll_mk0)))))

def cellsOf' : DataW Unit → Array Value
  | .agg l => (l.map fun
    | .lit (.int k n) => Value.int k n
    | _ => undef).toArray
  | _ => #[]
def layAt (g : Nat) (c : Array Value) (w : World) : World :=
  { w with heap := w.heap.modify g fun
      | .cells _ t frozen => .cells c t frozen
      | o => o }
noncomputable def laidWorld (os : Os) : World :=
  layAt 0 (cellsOf' Rows.laid_internal_strconv_uint64pow10) (layAt 1 (cellsOf' Rows.laid_math_bits_deBruijn32tab) (layAt 2 (cellsOf' Rows.laid_math_bits_deBruijn64tab) (World.holding Tryd.prog os ⟨#[], #[], []⟩)))
theorem laid_met (os : Os) : laidMet Tryd.prog Rows.taskFailsRow.laid ((laidWorld os).forCall (fun _ _ => 0) ⟨#[], #[.int .i64 0, .int .i64 0, .string ByteArray.empty, .string ByteArray.empty, .int .i64 0], []⟩).memory :=
  laidMet_of_run' 8 (by kernel_rfl) (by kernel_rfl)
theorem reads (os : Os) {H : Type} (enc : TypeId × Value → H) : ∃ places, DataW.whole enc Tryd.prog ((laidWorld os).forCall (fun _ _ => 0) ⟨#[], #[.int .i64 0, .int .i64 0, .string ByteArray.empty, .string ByteArray.empty, .int .i64 0], []⟩).memory Tryd.f4.params.toList Rows.taskFailsSpec.vars false (#[.int .i64 0, .int .i64 0, .string ByteArray.empty, .string ByteArray.empty, .int .i64 0] : Array Value).toList 8 = some ([.lit (.int .i64 0), .lit (.int .i64 0), .lit (.string []), .lit (.string []), .lit (.int .i64 0)], [], places) :=
  ⟨[], by kernel_rfl⟩

set_option maxRecDepth 100000 in
theorem lifted (os : Os) (started : os.Started) (H : Type) (enc : TypeId × Value → H) (F : Stop.Interp) :
    ReturnsInHanded {} Tryd.checked os 4 .any ((OpenSpec.ofChange Rows.taskFailsSpec).preRow enc Tryd.prog Tryd.f4 Rows.taskFailsRow.domain false Rows.taskFailsRow.laid) (((OpenSpec.ofChange Rows.taskFailsSpec).at F).post enc Tryd.prog Tryd.f4 false true false false) := by
  obtain ⟨places, hx⟩ := reads os enc
  refine returnsInHanded_of_row (C := Tryd.checked) (s := OpenSpec.ofChange Rows.taskFailsSpec) own started (by kernel_rfl) Tryd.func4
    (witness_row_at (enc := enc) (C := Tryd.checked) false (laidWorld os) #[.int .i64 0, .int .i64 0, .string ByteArray.empty, .string ByteArray.empty, .int .i64 0] rfl (by kernel_rfl) (by kernel_rfl) (by kernel_rfl)
      (OpenSpec.preRow_of_cond 8 hx (by kernel_rfl) (fun k hk => by cases hk) (by kernel_rfl) (laid_met os))) ?_
  intro W base args ds gs before hval hW _ _ _ hL _ _
  exact contract H enc W base args ds gs before hval hW

theorem said : Rows.TaskFailsSaid :=
  OpenClaim.holds_of_cond 4 Tryd.f4 rfl rfl rfl rfl rfl rfl rfl ⟨rfl, rfl, rfl, rfl, rfl⟩ rfl rfl rfl rfl rfl named_fn Tryd.func4 closed inst wrapper
    (fun os started H enc _ F => by rw [OpenClaim.pre_eq_preRow]; exact lifted os started H enc F)

theorem looks0 : Tryd.pinned.checked.prog.looks [] = false := by kernel_rfl

theorem ws3 : Tryd.pinned.checked.prog.wantsStandIn 3 = false := by kernel_rfl
theorem ws9 : Tryd.pinned.checked.prog.wantsStandIn 9 = false := by kernel_rfl
theorem plain (f : FuncId) (fn : Func) (hf : Tryd.pinned.checked.prog.funcNamed Rows.taskFailsRow.func = some f) (hfn : Tryd.pinned.checked.prog.funcs[f]? = some fn) :
    false = Tryd.pinned.checked.prog.looks [] ∧ ∀ (j : Nat) t, fn.params[j]? = some t → Tryd.pinned.checked.prog.wantsStandIn t = false := by
  obtain rfl : f = 4 := Option.some.inj (named_fn.symm.trans hf) |>.symm
  obtain rfl : fn = Tryd.f4 := (Option.some.inj (Tryd.func4.symm.trans hfn)).symm
  refine ⟨looks0.symm, fun j t ht => ?_⟩
  have hmem : t ∈ Tryd.f4.params.toList := by rw [← Array.getElem?_toList] at ht; exact List.mem_of_getElem? ht
  rw [Tryd.params4] at hmem
  simp only [List.mem_cons, List.not_mem_nil, or_false] at hmem
  rcases hmem with rfl | rfl | rfl | rfl | rfl
  · exact ws3
  · exact ws3
  · exact ws9
  · exact ws9
  · exact ws3

theorem card : Rows.TaskFailsCardSaid :=
  Claim7.holds_tied_plain_at .later [] _ _ _ _ said (fun _ h => by cases h) (by kernel_rfl) (fun _ h => by cases h) taskFails_row_tie rfl ⟨rfl, rfl⟩ (by kernel_rfl) rfl plain (by kernel_rfl)
end Go.Proofs.YtdhljfjmalphiaaDoor.taskFails
