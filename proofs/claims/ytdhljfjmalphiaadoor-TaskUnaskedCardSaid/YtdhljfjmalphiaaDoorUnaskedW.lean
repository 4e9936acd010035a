/- The walk of TaskUnasked. -/
import Derived.Test.YtdhljfjmalphiaaDoorUnasked
import Derived.Laws.Strings
import Derived.ChangeMaps5
namespace Go.Ai
/-- A run over given arguments. -/
theorem open_run [Val] {P : Program} {ng : Nat} {call : CallF} {f : Nat} {args : List V} {v : V} {s1 : S} (Cl : CallOk P ng call) (h : call f args (s0 ng) = some (v, s1)) (hv : v.bare 8 = true) (w : World) (cargs : Array Value) (hargs : VRs (sg0 ng) args cargs.toList) :
    Calls P f cargs w fun e w' => ∃ cv, e = .returned cv ∧ VR (fun _ => none) v cv ∧ (∀ cb, cb < w.heap.size → w'.heap[cb]? = w.heap[cb]?) ∧ w.heap.size ≤ w'.heap.size ∧ w'.os = w.os ∧ w'.output = w.output := by
  refine (Cl f args _ v s1 h _ _ _ w cargs (rel0 ng w) hargs).mono fun e w' ⟨cv, σ', he, hcv, R', _⟩ => ?_
  exact ⟨cv, he, V.bare_ok 8 _ _ hv hcv, fun cb hc => (R'.prot cb hc).2, R'.same.2.2.2, R'.same.1, R'.same.2.1⟩
end Go.Ai
namespace Go.Proofs.YtdhljfjmalphiaaDoor.Tab
open Go.Ai

theorem wrap_u32 (n : Int) : 0 ≤ wrapF .u32 n ∧ wrapF .u32 n < 4294967296 := by
  rw [show wrapF .u32 n = IntKind.u32.wrap n from wrapF_eq _ _]
  simp [IntKind.wrap, IntKind.bits, IntKind.signed]
  omega
theorem hstep_range (h : Int) (b : Nat) : 0 ≤ hstep h b ∧ hstep h b < 4294967296 := by
  unfold hstep
  split
  · exact wrap_u32 _
  · omega
theorem hashL_range : ∀ (l : List Nat) (h : Int), 0 ≤ h ∧ h < 4294967296 → 0 ≤ hashL h l ∧ hashL h l < 4294967296
  | [], _, hh => hh
  | b :: l, h, _ => hashL_range l (hstep h b) (hstep_range h b)

theorem callU [Val] {kb : Bool} {r q : Int} (K : KnowU kb r q) (hk : kb = true) (d : Nat) : CallOk Tryd.prog (ctx none3 none3 none2).ng (callN (ctx (sumU kb) none3 (orcU r q)) 1000 d) :=
  callN_ok mixed (tok (orcU_ok K hk)) ftok (fun f args s v s' h => by cases h) (sumU_ok K) codes d
theorem callB [Val] {kb : Bool} {r q : Int} (K : KnowU kb r q) (d : Nat) : CallOk Tryd.prog (ctx none3 none3 none2).ng (callN (ctx (sumU kb) none3 none2) 1000 d) :=
  callN_ok mixed (tok orc_none) ftok (fun f args s v s' h => by cases h) (sumU_ok K) codes d
theorem run_bad' : gives (callN (ctx (sumU false) none3 none2) 1000 60 3 [.sstr 0, .sint .i64 0] (s0 (ctx none3 none3 none2).ng)) (.bool true) = true := by kernel_rfl

theorem taskUnasked_walk (W : World) (key : ByteArray) (now : Int) (_ : key.size ≤ maxLen) (_ : (Lit.int .i64 now).wf = true) :
    Calls Tryd.prog 3 #[.string key, .int .i64 now] W fun e W' => e = .returned (.bool true) ∧ (∀ cb, cb < W.heap.size → W'.heap[cb]? = W.heap[cb]?) ∧ W.heap.size ≤ W'.heap.size ∧ W'.os = W.os ∧ W'.output = W.output := by
  let hh := hashL 2166136261 (nats key)
  let I : Val := ⟨fun i => match i with | 0 => now | 1 => hh | _ => wrapF .i64 hh, fun _ => key⟩
  have hr := hashL_range (nats key) 2166136261 (by omega)
  have h64 : wrapF .i64 hh = hh := by
    have : wrapF .i64 hh = IntKind.i64.wrap hh := wrapF_eq _ _
    rw [this]
    have h1 : 0 ≤ hh := hr.1
    have h2 : hh < 4294967296 := hr.2
    simp [IntKind.wrap, IntKind.bits, IntKind.signed]
    omega
  have hargs : @VRs I (sg0 (ctx none3 none3 none2).ng) [.sstr 0, .sint .i64 0] (#[.string key, .int .i64 now] : Array Value).toList := by
    simp only [VRs, VR]
    exact ⟨_, _, rfl, rfl, _, _, rfl, rfl, rfl⟩
  have fin : ∀ {call : CallF} {s1 : S}, CallOk Tryd.prog (ctx none3 none3 none2).ng call → call 3 [.sstr 0, .sint .i64 0] (s0 (ctx none3 none3 none2).ng) = some (.bool true, s1) →
      Calls Tryd.prog 3 #[.string key, .int .i64 now] W fun e W' => e = .returned (.bool true) ∧ (∀ cb, cb < W.heap.size → W'.heap[cb]? = W.heap[cb]?) ∧ W.heap.size ≤ W'.heap.size ∧ W'.os = W.os ∧ W'.output = W.output := by
    intro call s1 Cl h1
    refine (open_run Cl h1 rfl W _ hargs).mono fun e W' ⟨cv, he, hv, hr⟩ => ⟨?_, hr⟩
    simp only [VR] at hv
    rw [he, hv]
  cases hk : keyB (nats key) with
  | false =>
    have K : KnowU false ((wrapF .i64 hh).tmod 2) (now.tmod 3) := ⟨hk, (fun h => by cases h), rfl⟩
    obtain ⟨s1, h1⟩ := gives_ok run_bad'
    exact fin (callB K 60) h1
  | true =>
    have q1 := Int.tmod_lt_of_pos now (b := 3) (by omega)
    have q2 := Int.lt_tmod_of_pos now (b := 3) (by omega)
    have hq : now.tmod 3 = 0 ∨ now.tmod 3 = 1 ∨ now.tmod 3 = 2 ∨ now.tmod 3 = .negSucc 0 ∨ now.tmod 3 = .negSucc 1 := by omega
    have r1 : (wrapF .i64 hh).tmod 2 = 0 ∨ (wrapF .i64 hh).tmod 2 = 1 := by
      rw [h64, Int.tmod_eq_emod_of_nonneg hr.1]; omega
    have K : ∀ {r q : Int}, (wrapF .i64 hh).tmod 2 = r → now.tmod 3 = q → KnowU true r q := fun a b => ⟨hk, fun _ => ⟨rfl, rfl, a⟩, b⟩
    rcases r1 with a | a <;> rcases hq with b | b | b | b | b
    · obtain ⟨s1, h1⟩ := gives_ok run_00; exact fin (callU (K a b) rfl 60) h1
    · obtain ⟨s1, h1⟩ := gives_ok run_01; exact fin (callU (K a b) rfl 60) h1
    · obtain ⟨s1, h1⟩ := gives_ok run_02; exact fin (callU (K a b) rfl 60) h1
    · obtain ⟨s1, h1⟩ := gives_ok run_03; exact fin (callU (K a b) rfl 60) h1
    · obtain ⟨s1, h1⟩ := gives_ok run_04; exact fin (callU (K a b) rfl 60) h1
    · obtain ⟨s1, h1⟩ := gives_ok run_10; exact fin (callU (K a b) rfl 60) h1
    · obtain ⟨s1, h1⟩ := gives_ok run_11; exact fin (callU (K a b) rfl 60) h1
    · obtain ⟨s1, h1⟩ := gives_ok run_12; exact fin (callU (K a b) rfl 60) h1
    · obtain ⟨s1, h1⟩ := gives_ok run_13; exact fin (callU (K a b) rfl 60) h1
    · obtain ⟨s1, h1⟩ := gives_ok run_14; exact fin (callU (K a b) rfl 60) h1
end Go.Proofs.YtdhljfjmalphiaaDoor.Tab
