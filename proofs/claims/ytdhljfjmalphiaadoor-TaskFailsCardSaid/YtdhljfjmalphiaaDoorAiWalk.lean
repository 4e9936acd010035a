/- Steps of the evaluator as equations, loops by an invariant: for proofs over values that are Lean's own variables. -/
import Derived.Test.YtdhljfjmalphiaaDoorAiTop
namespace Go.Ai
section
variable {c : Ctx} {call : CallF} {lf fid n : Nat} {tm : T V} {s : S}

def loopV (c : Ctx) (call : CallF) (lf fid n : Nat) (b : Code) (tm : T V) (s : S) : Option (Ex × T V × S) := iterV (codeV c call lf fid n b) lf tm s
theorem codeV_skip : codeV c call lf fid n .skip tm s = some (.normal, tm, s) := rfl
theorem codeV_ret : codeV c call lf fid n .ret tm s = some (.ret, tm, s) := rfl
theorem codeV_exit {id : Nat} : codeV c call lf fid n (.exit id) tm s = some (.exit id, tm, s) := rfl
theorem codeV_region {id : Nat} {ops : Array Oper} : codeV c call lf fid n (.region id ops false) tm s = match seqV c call n ops ops.toList tm s with
  | some (tm', s') => some (.normal, tm', s')
  | none => none := rfl
theorem codeV_draw {id : Nat} {ops : Array Oper} {ri : RI} (h : c.ri fid id = some ri) : codeV c call lf fid n (.region id ops true) tm s = match drawV c call n ops ri tm s with
  | some (tm', s') => some (.normal, tm', s')
  | none => none := by
  simp only [codeV, h]
  cases drawV c call n ops ri tm s <;> rfl
theorem codeV_seq {a b : Code} : codeV c call lf fid n (.seq a b) tm s = match codeV c call lf fid n a tm s with
  | some (.normal, tm', s') => codeV c call lf fid n b tm' s'
  | r => r := rfl
theorem codeV_cond {x : Operand} {a b : Code} : codeV c call lf fid n (.cond x a b) tm s = match ev c.ng tm x with
  | some (.bool true) => codeV c call lf fid n a tm s
  | some (.bool false) => codeV c call lf fid n b tm s
  | _ => none := rfl
theorem codeV_block {id : Nat} {b : Code} : codeV c call lf fid n (.block id b) tm s = match codeV c call lf fid n b tm s with
  | some (.exit j, tm', s') => cond (Nat.beq j id) (some (.normal, tm', s')) (some (.exit j, tm', s'))
  | r => r := rfl
theorem codeV_scope {b : Code} : codeV c call lf fid n (.scope b) tm s = codeV c call lf fid n b tm s := rfl
theorem codeV_loop {b : Code} : codeV c call lf fid n (.loop b) tm s = loopV c call lf fid n b tm s := rfl

def Ex.isNormal : Ex → Bool
  | .normal => true
  | _ => false
/-- A loop that ends behind N rounds at most. -/
theorem loopV_for {b : Code} {L : Option (Ex × T V × S)} (hL : loopV c call lf fid n b tm s = L) (N : Nat) (Inv : Nat → T V → S → Prop) (Post : Ex → T V → S → Prop)
    (step : ∀ i tm s, i < N → Inv i tm s → ∃ e tm' s', codeV c call lf fid n b tm s = some (e, tm', s') ∧ ((e = .normal ∧ Inv (i + 1) tm' s') ∨ (e.isNormal = false ∧ Post e tm' s')))
    (exit : ∀ tm s, Inv N tm s → ∃ e tm' s', codeV c call lf fid n b tm s = some (e, tm', s') ∧ e.isNormal = false ∧ Post e tm' s')
    (i : Nat) (hi : i ≤ N) (hlf : N < lf + i) (h0 : Inv i tm s) : ∃ e tm' s', L = some (e, tm', s') ∧ e.isNormal = false ∧ Post e tm' s' := by
  subst hL
  unfold loopV
  suffices all : ∀ (k m i : Nat) (tm : T V) (s : S), i + k = N → k < m → Inv i tm s → ∃ e tm' s', iterV (codeV c call lf fid n b) m tm s = some (e, tm', s') ∧ e.isNormal = false ∧ Post e tm' s' from
    all (N - i) lf i tm s (by omega) (by omega) h0
  intro k
  induction k with
  | zero =>
    intro m i tm s h1 h2 h3
    obtain ⟨m, rfl⟩ : ∃ q, m = q + 1 := ⟨m - 1, by omega⟩
    obtain rfl : i = N := by omega
    obtain ⟨e, tm', s', h4, h5, h6⟩ := exit tm s h3
    refine ⟨e, tm', s', ?_, h5, h6⟩
    simp only [iterV, h4]
    cases e <;> first | rfl | cases h5
  | succ k ih =>
    intro m i tm s h1 h2 h3
    obtain ⟨m, rfl⟩ : ∃ q, m = q + 1 := ⟨m - 1, by omega⟩
    obtain ⟨e, tm', s', h4, h5⟩ := step i tm s (by omega) h3
    rcases h5 with ⟨rfl, h5⟩ | ⟨h5, h6⟩
    · obtain ⟨e, tm2, s2, h6, h7⟩ := ih m (i + 1) tm' s' (by omega) (by omega) h5
      exact ⟨e, tm2, s2, by simp only [iterV, h4, h6], h7⟩
    · refine ⟨e, tm', s', ?_, h5, h6⟩
      simp only [iterV, h4]
      cases e <;> first | rfl | cases h5

theorem putT_eq (n : Nat) (tm : T V) (d : Nat) (v : V) : putT n tm (some d) v = if d < n then some (tm.set d v) else none := by
  simp only [putT]
  by_cases h : d < n
  · rw [if_pos h, show Nat.blt d n = true by rw [Nat.blt_eq]; exact h]; rfl
  · rw [if_neg h, show Nat.blt d n = false by rw [Bool.eq_false_iff]; intro e; rw [Nat.blt_eq] at e; exact h e]; rfl
theorem natBeq (a b : Nat) : Nat.beq a b = decide (a = b) := by rw [Bool.eq_iff_iff, Nat.beq_eq]; simp
theorem bq1 : (true == true) = true := rfl
theorem bq2 : (true == false) = false := rfl
theorem bq3 : (false == true) = false := rfl
theorem bq4 : (false == false) = true := rfl
theorem putT_none (n : Nat) (tm : T V) (v : V) : putT n tm none v = some tm := rfl
theorem ltF_nat (a b : Nat) : ltF (.ofNat a) (.ofNat b) = decide (a < b) := by
  simp only [ltF]; rw [Bool.eq_iff_iff, Nat.blt_eq]; simp
theorem eqF_nat (a b : Nat) : eqF (.ofNat a) (.ofNat b) = decide (a = b) := by
  simp only [eqF]; rw [Bool.eq_iff_iff, Nat.beq_eq]; simp
theorem wrap_nat {a : Nat} (h : a < 9223372036854775808) : wrapF .i64 (.ofNat a) = .ofNat a := by
  simp only [wrapF, lim, show Nat.blt a 9223372036854775808 = true by rw [Nat.blt_eq]; exact h, cond_true]
end
end Go.Ai
