/- A run over given arguments; the hash's range. -/
import Derived.Test.YtdhljfjmalphiaaDoorLeaf
import Derived.Laws.Strings
import Derived.ChangeMaps5
namespace Go.Ai
/-- A run over given arguments. -/
theorem open_run [Val] {P : Program} {ng : Nat} {call : CallF} {f : Nat} {args : List V} {v : V} {s1 : S} (Cl : CallOk P ng call) (h : call f args (s0 ng) = some (v, s1)) (hv : v.bare 8 = true) (w : World) (cargs : Array Value) (hargs : VRs (sg0 ng) args cargs.toList) :
    Calls P f cargs w fun e w' => ∃ cv, e = .returned cv ∧ VR (fun _ => none) v cv ∧ (∀ cb, cb < w.heap.size → w'.heap[cb]? = w.heap[cb]?) ∧ w.heap.size ≤ w'.heap.size ∧ w'.os = w.os ∧ w'.output = w.output := by
  refine (Cl f args _ v s1 h _ _ _ w cargs (rel0 ng w) hargs).mono fun e w' ⟨cv, σ', he, hcv, R', _⟩ => ?_
  exact ⟨cv, he, V.bare_ok 8 _ _ hv hcv, fun cb hc => (R'.prot cb hc).2, R'.same.2.2.2, R'.same.1, R'.same.2.1⟩
end Go.Ai
namespace Go.Proofs.YtdhljfjmalphiaaDoor.Tab
open Go.Ai

theorem wrap_u32 (n : Int) : 0 ≤ wrapF .u32 n ∧ wrapF .u32 n < 4294967296 := by
  rw [show wrapF .u32 n = IntKind.u32.wrap n from wrapF_eq _ _]
  simp [IntKind.wrap, IntKind.bits, IntKind.signed]
  omega
theorem hstep_range (h : Int) (b : Nat) : 0 ≤ hstep h b ∧ hstep h b < 4294967296 := by
  unfold hstep
  split
  · exact wrap_u32 _
  · omega
theorem hashL_range : ∀ (l : List Nat) (h : Int), 0 ≤ h ∧ h < 4294967296 → 0 ≤ hashL h l ∧ hashL h l < 4294967296
  | [], _, hh => hh
  | b :: l, h, _ => hashL_range l (hstep h b) (hstep_range h b)

end Go.Proofs.YtdhljfjmalphiaaDoor.Tab
