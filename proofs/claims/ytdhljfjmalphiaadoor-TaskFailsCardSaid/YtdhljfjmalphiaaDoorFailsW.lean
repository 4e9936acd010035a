/- The walk of TaskFails. -/
import Derived.Test.YtdhljfjmalphiaaDoorFailsS
import Derived.Test.YtdhljfjmalphiaaDoorFailsB
import Derived.Test.YtdhljfjmalphiaaDoorFailsR0
import Derived.Test.YtdhljfjmalphiaaDoorFailsR1
import Derived.Test.YtdhljfjmalphiaaDoorFailsR2
import Derived.Test.YtdhljfjmalphiaaDoorFailsR3
import Derived.Test.YtdhljfjmalphiaaDoorFailsR4
import Derived.Test.YtdhljfjmalphiaaDoorFailsR5
namespace Go.Proofs.YtdhljfjmalphiaaDoor.Tab
open Go.Ai
set_option maxRecDepth 100000

theorem callF [Val] {kb big : Bool} {a b n r : Nat} (K : KnowF kb big a b n r) (d : Nat) : CallOk Tryd.prog (ctx none3 none3 none2).ng (callN (ctx (sumF kb big a b n) none3 (orcF kb big a b r)) 1000 d) :=
  callN_ok mixed (tok (orcF_ok K)) ftok (fun f args s v s' h => by cases h) (sumF_ok K) codes d
theorem encL_byte (l : List Nat) (k size : Nat) (row : Nat → Nat) : ∀ b ∈ encL l k size row, b < 256 := by
  intro b hb
  unfold encL at hb
  simp only [List.mem_map] at hb
  obtain ⟨t, _, rfl⟩ := hb
  exact mixAt_byte _ _ _ _
theorem all_runs (a b : Nat) (h1 : 1 ≤ a) (h2 : a ≤ 4) (h3 : b ≤ 3) : (∀ r n, r < a + b → n ≤ a + b → runF true false a b n r = true) ∧ ∀ n r, runF false false a b n r = true ∧ runF false true a b n r = true ∧ runF true true a b n r = true := by
  have ha : a = 1 ∨ a = 2 ∨ a = 3 ∨ a = 4 := by omega
  have hb : b = 0 ∨ b = 1 ∨ b = 2 ∨ b = 3 := by omega
  rcases ha with rfl | rfl | rfl | rfl <;> rcases hb with rfl | rfl | rfl | rfl
  · exact ⟨fa_1_0, fun n r => ⟨g_1_0 n r, h_1_0 n r, i_1_0 n r⟩⟩
  · exact ⟨fa_1_1, fun n r => ⟨g_1_1 n r, h_1_1 n r, i_1_1 n r⟩⟩
  · exact ⟨fa_1_2, fun n r => ⟨g_1_2 n r, h_1_2 n r, i_1_2 n r⟩⟩
  · exact ⟨fa_1_3, fun n r => ⟨g_1_3 n r, h_1_3 n r, i_1_3 n r⟩⟩
  · exact ⟨fa_2_0, fun n r => ⟨g_2_0 n r, h_2_0 n r, i_2_0 n r⟩⟩
  · exact ⟨fa_2_1, fun n r => ⟨g_2_1 n r, h_2_1 n r, i_2_1 n r⟩⟩
  · exact ⟨fa_2_2, fun n r => ⟨g_2_2 n r, h_2_2 n r, i_2_2 n r⟩⟩
  · exact ⟨fa_2_3, fun n r => ⟨g_2_3 n r, h_2_3 n r, i_2_3 n r⟩⟩
  · exact ⟨fa_3_0, fun n r => ⟨g_3_0 n r, h_3_0 n r, i_3_0 n r⟩⟩
  · exact ⟨fa_3_1, fun n r => ⟨g_3_1 n r, h_3_1 n r, i_3_1 n r⟩⟩
  · exact ⟨fa_3_2, fun n r => ⟨g_3_2 n r, h_3_2 n r, i_3_2 n r⟩⟩
  · exact ⟨fa_3_3, fun n r => ⟨g_3_3 n r, h_3_3 n r, i_3_3 n r⟩⟩
  · exact ⟨fa_4_0, fun n r => ⟨g_4_0 n r, h_4_0 n r, i_4_0 n r⟩⟩
  · exact ⟨fa_4_1, fun n r => ⟨g_4_1 n r, h_4_1 n r, i_4_1 n r⟩⟩
  · exact ⟨fa_4_2, fun n r => ⟨g_4_2 n r, h_4_2 n r, i_4_2 n r⟩⟩
  · exact ⟨fa_4_3, fun n r => ⟨g_4_3 n r, h_4_3 n r, i_4_3 n r⟩⟩
noncomputable abbrev valF (k m kept : Int) (key value : ByteArray) (a : Nat) : Val :=
  ⟨fun i => match i with
    | 0 => k
    | 1 => m
    | 2 => kept
    | 3 => hashL 2166136261 (nats key)
    | 4 => wrapF .i64 (hashL 2166136261 (nats key))
    | 10 => Int.ofNat (nats value).length
    | _ => 0, fun i => if i = 0 then key else if i = 1 then value else if i = 30 then ofNats (recL (nats value).length) else ofNats (encL (nats value) a (((nats value).length + a - 1) / a) (cauN a (i - 20)))⟩
theorem taskFails_walk (W : World) (k m : Int) (key value : ByteArray) (kept : Int) (_ : (Lit.int .i64 k).wf = true) (_ : (Lit.int .i64 m).wf = true) (_ : key.size ≤ maxLen) (_ : value.size ≤ maxLen) (_ : (Lit.int .i64 kept).wf = true) :
    Calls Tryd.prog 4 #[.int .i64 k, .int .i64 m, .string key, .string value, .int .i64 kept] W fun e W' => e = .returned (.bool true) ∧ (∀ cb, cb < W.heap.size → W'.heap[cb]? = W.heap[cb]?) ∧ W.heap.size ≤ W'.heap.size ∧ W'.os = W.os ∧ W'.output = W.output := by
  obtain ⟨a, ha, a1, a2⟩ := within_range k 1 4 (by omega)
  obtain ⟨b, hb, b1, b2⟩ := within_range m 0 3 (by omega)
  obtain ⟨n, hn, n1, n2⟩ := within_range kept 0 (a + b) (by omega)
  let I : Val := valF k m kept key value a
  have hr := hashL_range (nats key) 2166136261 (by omega)
  have h64 : wrapF .i64 (hashL 2166136261 (nats key)) = hashL 2166136261 (nats key) := by
    rw [wrapF_eq]
    have h1 := hr.1
    have h2 := hr.2
    simp [IntKind.wrap, IntKind.bits, IntKind.signed]
    omega
  obtain ⟨r, hrr, hrl⟩ : ∃ r : Nat, (wrapF .i64 (hashL 2166136261 (nats key))).tmod (Int.ofNat (a + b)) = Int.ofNat r ∧ r < a + b := by
    rw [h64]
    obtain ⟨hN, hH⟩ : ∃ hN : Nat, hashL 2166136261 (nats key) = Int.ofNat hN := ⟨(hashL 2166136261 (nats key)).toNat, by have := hr.1; simp; omega⟩
    rw [hH]
    exact ⟨hN % (a + b), rfl, Nat.mod_lt _ (by omega)⟩
  have hargs : @VRs I (sg0 (ctx none3 none3 none2).ng) [.sint .i64 0, .sint .i64 1, .sstr 0, .sstr 1, .sint .i64 2] (#[.int .i64 k, .int .i64 m, .string key, .string value, .int .i64 kept] : Array Value).toList := by
    simp only [VRs, VR]
    exact ⟨_, _, rfl, rfl, _, _, rfl, rfl, _, _, rfl, rfl, _, _, rfl, rfl, _, _, rfl, rfl, rfl⟩
  have K : ∀ {kb big : Bool} {n' r' : Nat}, keyB (nats key) = kb → decide (300 < (nats value).length) = big → (kb = true → r' = r) → n' = n → @KnowF I kb big a b n' r' := by
    intro kb big n' r' h1 h2 h3 h4
    subst h4
    refine ⟨h1, fun hk => ⟨rfl, rfl, by rw [h3 hk]; exact hrr⟩, ha, hb, hn, rfl, h2, fun hbg i hi => ?_, fun hbg => ?_, a1, a2, b2⟩
    · show nats (if 20 + i = 0 then key else if 20 + i = 1 then value else if 20 + i = 30 then _ else _) = _
      rw [if_neg (by omega), if_neg (by omega), if_neg (by omega), Nat.add_sub_cancel_left]
      exact nats_ofNats (encL_byte _ _ _ _)
    · rw [hbg] at h2
      obtain ⟨_, _, hby⟩ := rec_run (L := (nats value).length) (by simpa using h2)
      exact nats_ofNats hby
  have fin : ∀ {kb big : Bool} {n' r' : Nat}, @KnowF I kb big a b n' r' → runF kb big a b n' r' = true →
      Calls Tryd.prog 4 #[.int .i64 k, .int .i64 m, .string key, .string value, .int .i64 kept] W fun e W' => e = .returned (.bool true) ∧ (∀ cb, cb < W.heap.size → W'.heap[cb]? = W.heap[cb]?) ∧ W.heap.size ≤ W'.heap.size ∧ W'.os = W.os ∧ W'.output = W.output := by
    intro kb big n' r' hK hrun
    obtain ⟨s1, h1⟩ := gives_ok hrun
    refine (open_run (callF hK 60) h1 rfl W _ hargs).mono fun e W' ⟨cv, he, hv, hr⟩ => ⟨?_, hr⟩
    simp only [VR] at hv
    rw [he, hv]
  obtain ⟨q1, q2⟩ := all_runs a b a1 a2 b2
  obtain ⟨u1, u2, u3⟩ := q2 n r
  cases hk : keyB (nats key) with
  | false => cases hg : decide (300 < (nats value).length) with
    | false => exact fin (K hk hg (fun h => by cases h) rfl) u1
    | true => exact fin (K hk hg (fun h => by cases h) rfl) u2
  | true => cases hg : decide (300 < (nats value).length) with
    | false => exact fin (K hk hg (fun _ => rfl) rfl) (q1 r n hrl n2)
    | true => exact fin (K hk hg (fun _ => rfl) rfl) u3
end Go.Proofs.YtdhljfjmalphiaaDoor.Tab
