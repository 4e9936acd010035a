/- Loops over strings, at the evaluator. -/
import Derived.Test.YtdhljfjmalphiaaDoorTabsOk
import Derived.Test.YtdhljfjmalphiaaDoorAiWalk
namespace Go.Proofs.YtdhljfjmalphiaaDoor.Tab
open Go.Ai
set_option maxRecDepth 100000

theorem tt9 : tt.get 9 = some ⟨.str, 1, 16, .str [], false, false⟩ := by kernel_rfl
theorem tt3 : tt.get 3 = some ⟨.int .i64, 1, 8, .int .i64 (0), false, false⟩ := by kernel_rfl
theorem tt5 : tt.get 5 = some ⟨.int .u8, 1, 1, .int .u8 (0), false, false⟩ := by kernel_rfl
theorem tt105 : tt.get 105 = some ⟨.int .u32, 1, 4, .int .u32 (0), false, false⟩ := by kernel_rfl
theorem ctx_tt {sum ext orc} : (ctx sum ext orc).tt = tt := rfl
theorem ctx_ng {sum ext orc} : (ctx sum ext orc).ng = 3 := rfl

/-- One step of the hash. -/
def hstep (h : Int) (b : Nat) : Int := match bitsV .xor .u32 h (wrapF .u32 (b : Int)) with
  | some x => wrapF .u32 (x * 16777619)
  | none => 0
def hashL : Int → List Nat → Int
  | h, [] => h
  | h, b :: l => hashL (hstep h b) l
theorem hashL_snoc : ∀ (l : List Nat) (h : Int) (b : Nat), hashL h (l ++ [b]) = hstep (hashL h l) b
  | [], _, _ => rfl
  | a :: l, h, b => hashL_snoc l (hstep h a) b
theorem hashL_take {l : List Nat} {i b : Nat} (h : nth l i = some b) (x : Int) : hashL x (l.take (i + 1)) = hstep (hashL x (l.take i)) b := by
  rw [nth_eq] at h
  have : l.take (i + 1) = l.take i ++ [b] := by
    rw [List.take_add_one, h]; rfl
  rw [this, hashL_snoc]
theorem bitsV_xor {x y : Int} : ∃ z, bitsV .xor .u32 x y = some z := by
  cases x with
  | ofNat a => cases y with
    | ofNat b =>
      simp only [bitsV]
      cases (Nat.blt a (lim .u32) && Nat.blt b (lim .u32)) with
      | true => exact ⟨_, rfl⟩
      | false => exact ⟨_, rfl⟩
    | negSucc b => exact ⟨_, rfl⟩
  | negSucc a => exact ⟨_, rfl⟩

variable {sum ext : CallF} {orc : OrcF} {call : CallF}
theorem hash_run (l : List Nat) (hl : l.length < 1000) (d : Nat) (s : S) (hs : sum 48 [.str l] s = none) : callN (ctx sum ext orc) 1000 (d + 1) 48 [.str l] s = some (.int .u32 (hashL 2166136261 l), s) := by
  have hft : (ctx sum ext orc).ft.get 48 = some Tryd.f48 := by kernel_rfl
  have hsum : (ctx sum ext orc).sum 48 [.str l] s = none := hs
  simp only [callN, callStep, hsum, hft]
  rw [show Tryd.f48.body = some _ from rfl]
  simp only [Tryd.f48, List.length_cons, List.length_nil, show Nat.ble (0 + 1) 20 = true from rfl, cond_true, T.ofListFrom]
  simp only [codeV_ret, codeV_region, codeV_seq, codeV_block, codeV_loop, seqV, wantedV, stepV, clsOf, pureV, pureV0, ev, toV, toV0, evs, putT_eq, T.get_set, lenV, ctx_tt, tt9, Option.getD_some, reduceIte, Nat.reduceLT, Nat.reduceEqDiff, T.get_leaf]
  generalize hL : loopV _ _ _ _ _ _ _ _ = L
  obtain ⟨e, tm', s', rfl, he, hp⟩ := loopV_for hL l.length
    (fun i tm s' => s' = s ∧ tm.get 0 = some (.str l) ∧ tm.get 3 = some (.int .u32 (hashL 2166136261 (l.take i))) ∧ tm.get 6 = some (.int .i64 (Int.ofNat l.length)) ∧ tm.get 7 = some (.int .i64 (Int.ofNat i)))
    (fun e tm s' => e = .exit 0 ∧ s' = s ∧ tm.get 3 = some (.int .u32 (hashL 2166136261 l)))
    (by
      intro i tm s' hi ⟨hs, h0, h3, h6, h7⟩
      subst hs
      have hlt : ltF (Int.ofNat i) (Int.ofNat l.length) = true := by rw [ltF_nat]; simpa using hi
      obtain ⟨b, hb⟩ : ∃ b, nth l i = some b := by rw [nth_eq]; exact ⟨l[i], by simp [hi]⟩
      have hw : wrapF .i64 (Int.ofNat i + 1) = Int.ofNat (i + 1) := wrap_nat (a := i + 1) (by omega)
      obtain ⟨z, hz⟩ := bitsV_xor (x := hashL 2166136261 (l.take i)) (y := wrapF .u32 (b : Int))
      have hst := hashL_take hb 2166136261
      simp only [hstep, hz] at hst
      simp only [codeV_skip, codeV_region, codeV_seq, codeV_cond, codeV_block, seqV, wantedV, stepV, clsOf, pureV, pureV0, ev, toV, toV0, putT_eq, T.get_set, binV, intBin, convV, kindEq, ctx_tt, tt9, tt5, tt105, Option.getD_some, reduceIte, cond_true, Nat.reduceLT, Nat.reduceEqDiff, h0, h3, h6, h7, hlt, hb, hw, hz]
      exact ⟨_, _, _, rfl, .inl ⟨rfl, rfl, by simp [T.get_set, h0], by simp [T.get_set, hst], by simp [T.get_set, h6], by simp [T.get_set]⟩⟩)
    (by
      intro tm s' ⟨hs, h0, h3, h6, h7⟩
      subst hs
      have hlt : ltF (Int.ofNat l.length) (Int.ofNat l.length) = false := by rw [ltF_nat]; simp
      simp only [codeV_exit, codeV_region, codeV_seq, codeV_cond, seqV, wantedV, stepV, clsOf, pureV, pureV0, ev, putT_eq, T.get_set, binV, intBin, kindEq, Option.getD_some, reduceIte, cond_true, Nat.reduceLT, h6, h7, hlt]
      exact ⟨_, _, _, rfl, rfl, rfl, rfl, by simp [T.get_set, h3]⟩)
    0 (Nat.zero_le _) (by omega) ⟨rfl, by simp [T.get_set], by simp [T.get_set, hashL], by simp [T.get_set], by simp [T.get_set]⟩
  obtain ⟨rfl, rfl, h3⟩ := hp
  simp only [T.get_set, Option.getD_some, reduceIte, cond_true, Nat.reduceEqDiff, Nat.beq_refl, resV, packV, h3]

/-- What a key may be. -/
def keyB (l : List Nat) : Bool := decide (1 ≤ l.length) && decide (l.length ≤ 250) && l.all fun b => decide (32 < b) && !decide (b = 127)
theorem key_all {l : List Nat} (h : ∀ i b, nth l i = some b → 32 < b ∧ b ≠ 127) : (l.all fun b => decide (32 < b) && !decide (b = 127)) = true := by
  rw [List.all_eq_true]
  intro b hb
  obtain ⟨i, hi, rfl⟩ := List.mem_iff_getElem.1 hb
  have := h i l[i] (by rw [nth_eq]; simp [hi])
  simp [this.1, this.2]
theorem key_bad {l : List Nat} {i b : Nat} (h : nth l i = some b) (hb : b ≤ 32 ∨ b = 127) : (l.all fun b => decide (32 < b) && !decide (b = 127)) = false := by
  rw [List.all_eq_false]
  rw [nth_eq] at h
  exact ⟨b, List.mem_of_getElem? h, by rcases hb with hb | hb <;> simp <;> omega⟩
theorem key_run (l : List Nat) (d : Nat) (s : S) (hs : sum 7 [.str l] s = none) : callN (ctx sum ext orc) 1000 (d + 1) 7 [.str l] s = some (.bool (keyB l), s) := by
  have hft : (ctx sum ext orc).ft.get 7 = some Tryd.f7 := by kernel_rfl
  have hsum : (ctx sum ext orc).sum 7 [.str l] s = none := hs
  simp only [callN, callStep, hsum, hft]
  rw [show Tryd.f7.body = some _ from rfl]
  simp only [Tryd.f7, List.length_cons, List.length_nil, show Nat.ble (0 + 1) 28 = true from rfl, cond_true, T.ofListFrom]
  have c1 : ∀ b : Bool, ltF (↑l.length) 1 = b ↔ decide (l.length < 1) = b := by
    intro b; rw [show (1 : Int) = Int.ofNat 1 from rfl, show ((l.length : Nat) : Int) = Int.ofNat l.length from rfl, ltF_nat]
  have c2 : ∀ b : Bool, ltF 250 (↑l.length) = b ↔ decide (250 < l.length) = b := by
    intro b; rw [show (250 : Int) = Int.ofNat 250 from rfl, show ((l.length : Nat) : Int) = Int.ofNat l.length from rfl, ltF_nat]
  by_cases h1 : l.length < 1
  · have hl1 : ltF (↑l.length) 1 = true := (c1 _).2 (by simpa using h1)
    simp only [codeV_ret, codeV_region, codeV_seq, codeV_cond, seqV, wantedV, stepV, clsOf, pureV, pureV0, ev, toV, toV0, evs, putT_eq, T.get_set, lenV, binV, intBin, kindEq, nth, Option.bind_some, ctx_tt, tt9, Option.getD_some, reduceIte, cond_true, Nat.reduceLT, Nat.reduceEqDiff, T.get_leaf, bq2, hl1, resV, packV]
    have : keyB l = false := by unfold keyB; rw [decide_eq_false (by omega)]; rfl
    rw [this]
  have hl1 : ltF (↑l.length) 1 = false := (c1 _).2 (by simpa using h1)
  by_cases h2 : 250 < l.length
  · have hl2 : ltF 250 (↑l.length) = true := (c2 _).2 (by simpa using h2)
    simp only [codeV_ret, codeV_region, codeV_seq, codeV_cond, seqV, wantedV, stepV, clsOf, pureV, pureV0, ev, toV, toV0, evs, putT_eq, T.get_set, lenV, binV, intBin, kindEq, nth, Option.bind_some, ctx_tt, tt9, Option.getD_some, reduceIte, cond_true, Nat.reduceLT, Nat.reduceEqDiff, beq_self_eq_true, T.get_leaf, hl1, hl2, resV, packV]
    have : keyB l = false := by unfold keyB; rw [decide_eq_false (p := l.length ≤ 250) (by omega)]; simp
    rw [this]
  have hl2 : ltF 250 (↑l.length) = false := (c2 _).2 (by simpa using h2)
  simp only [codeV_skip, codeV_ret, codeV_region, codeV_seq, codeV_cond, codeV_block, codeV_loop, seqV, wantedV, stepV, clsOf, pureV, pureV0, ev, toV, toV0, evs, putT_eq, T.get_set, lenV, binV, intBin, kindEq, nth, Option.bind_some, ctx_tt, tt9, Option.getD_some, reduceIte, cond_true, Nat.reduceLT, Nat.reduceEqDiff, beq_self_eq_true, T.get_leaf, hl1, hl2, resV, packV]
  generalize hL : loopV _ _ _ _ _ _ _ _ = L
  obtain ⟨e, tm', s', rfl, he, hp⟩ := loopV_for hL l.length
    (fun i tm s' => s' = s ∧ tm.get 0 = some (.str l) ∧ tm.get 13 = some (.int .i64 (Int.ofNat l.length)) ∧ tm.get 14 = some (.int .i64 (Int.ofNat i)) ∧ ∀ j b, j < i → nth l j = some b → 32 < b ∧ b ≠ 127)
    (fun e tm s' => s' = s ∧ ((e = .exit 0 ∧ ∀ j b, nth l j = some b → 32 < b ∧ b ≠ 127) ∨ (e = .ret ∧ tm.get 2 = some (.bool false) ∧ ∃ j b, nth l j = some b ∧ (b ≤ 32 ∨ b = 127))))
    (by
      intro i tm s' hi ⟨hs, h0, h3, h6, hall⟩
      subst hs
      have hlt : ltF (Int.ofNat i) (Int.ofNat l.length) = true := by rw [ltF_nat]; simpa using hi
      obtain ⟨b, hb⟩ : ∃ b, nth l i = some b := by rw [nth_eq]; exact ⟨l[i], by simp [hi]⟩
      have hw : wrapF .i64 (Int.ofNat i + 1) = Int.ofNat (i + 1) := wrap_nat (a := i + 1) (by omega)
      have d1 : ∀ x : Bool, ltF 32 (↑b) = x ↔ decide (32 < b) = x := by
        intro x; rw [show (32 : Int) = Int.ofNat 32 from rfl, show ((b : Nat) : Int) = Int.ofNat b from rfl, ltF_nat]
      have d2 : ∀ x : Bool, eqF (↑b) 127 = x ↔ decide (b = 127) = x := by
        intro x; rw [show (127 : Int) = Int.ofNat 127 from rfl, show ((b : Nat) : Int) = Int.ofNat b from rfl, eqF_nat]
      by_cases q1 : 32 < b
      · have e1 : ltF 32 (↑b) = true := (d1 _).2 (by simpa using q1)
        by_cases q2 : b = 127
        · have e2 : eqF (↑b) 127 = true := (d2 _).2 (by simpa using q2)
          simp only [codeV_skip, codeV_ret, codeV_region, codeV_seq, codeV_cond, codeV_block, seqV, wantedV, stepV, clsOf, pureV, pureV0, ev, toV, toV0, putT_eq, T.get_set, binV, intBin, kindEq, nth, Option.bind_some, ctx_tt, tt9, Option.getD_some, reduceIte, cond_true, Nat.reduceLT, Nat.reduceEqDiff, beq_self_eq_true, Bool.not_true, h0, h3, h6, hlt, hb, e1, e2]
          exact ⟨_, _, _, rfl, .inr ⟨rfl, rfl, .inr ⟨rfl, by simp [T.get_set], i, b, hb, .inr q2⟩⟩⟩
        · have e2 : eqF (↑b) 127 = false := (d2 _).2 (by simpa using q2)
          simp only [codeV_skip, codeV_region, codeV_seq, codeV_cond, codeV_block, seqV, wantedV, stepV, clsOf, pureV, pureV0, ev, toV, toV0, putT_eq, T.get_set, binV, intBin, kindEq, nth, Option.bind_some, ctx_tt, tt9, Option.getD_some, reduceIte, cond_true, Nat.reduceLT, Nat.reduceEqDiff, beq_self_eq_true, Bool.not_true, h0, h3, h6, hlt, hb, hw, e1, e2]
          refine ⟨_, _, _, rfl, .inl ⟨rfl, rfl, by simp [T.get_set, h0], by simp [T.get_set, h3], by simp [T.get_set], fun j b' hj hb' => ?_⟩⟩
          rcases Nat.lt_succ_iff_lt_or_eq.1 hj with hj | rfl
          · exact hall j b' hj hb'
          · rw [hb] at hb'; cases hb'; exact ⟨q1, q2⟩
      · have e1 : ltF 32 (↑b) = false := (d1 _).2 (by simpa using q1)
        simp only [codeV_skip, codeV_ret, codeV_region, codeV_seq, codeV_cond, codeV_block, seqV, wantedV, stepV, clsOf, pureV, pureV0, ev, toV, toV0, putT_eq, T.get_set, binV, intBin, kindEq, nth, Option.bind_some, ctx_tt, tt9, Option.getD_some, reduceIte, cond_true, Nat.reduceLT, Nat.reduceEqDiff, bq2, Bool.not_false, h0, h3, h6, hlt, hb, e1]
        exact ⟨_, _, _, rfl, .inr ⟨rfl, rfl, .inr ⟨rfl, by simp [T.get_set], i, b, hb, .inl (by omega)⟩⟩⟩)
    (by
      intro tm s' ⟨hs, h0, h3, h6, hall⟩
      subst hs
      have hlt : ltF (Int.ofNat l.length) (Int.ofNat l.length) = false := by rw [ltF_nat]; simp
      simp only [codeV_exit, codeV_region, codeV_seq, codeV_cond, seqV, wantedV, stepV, clsOf, pureV, pureV0, ev, putT_eq, T.get_set, binV, intBin, kindEq, Option.getD_some, reduceIte, cond_true, Nat.reduceLT, h3, h6, hlt]
      refine ⟨_, _, _, rfl, rfl, rfl, .inl ⟨rfl, fun j b hb => hall j b ?_ hb⟩⟩
      rw [nth_eq] at hb
      rcases Nat.lt_or_ge j l.length with h | h
      · exact h
      · simp [List.getElem?_eq_none h] at hb)
    0 (Nat.zero_le _) (by omega) ⟨rfl, by simp [T.get_set], by simp [T.get_set], by simp [T.get_set], fun j b h => by omega⟩
  obtain ⟨rfl, ⟨rfl, hall⟩ | ⟨rfl, h2, j, b, hb, hbad⟩⟩ := hp
  · simp only [T.get_set, Option.getD_some, reduceIte, cond_true, Nat.beq_refl]
    have : keyB l = true := by unfold keyB; rw [key_all hall, decide_eq_true (by omega), decide_eq_true (by omega)]; rfl
    rw [this]
  · simp only [Option.getD_some, h2]
    have : keyB l = false := by unfold keyB; rw [key_bad hb hbad]; simp
    rw [this]
end Go.Proofs.YtdhljfjmalphiaaDoor.Tab
