/- The code of values: products, mixing, encoding, at the evaluator. -/
import Derived.Test.YtdhljfjmalphiaaDoorRt
namespace Go.Proofs.YtdhljfjmalphiaaDoor.Tab
open Go.Ai
set_option maxRecDepth 100000

variable {sum ext : CallF} {orc : OrcF}
theorem rix138 : (ctx sum ext orc).ri 138 3 = some ⟨[0, 1, 2, 3, 4, 5, 6, 7, 8, 9, 10, 11, 12, 13, 14, 15, 16, 17, 18, 19, 20], [], []⟩ := by kernel_rfl
theorem mul_run (lf d b o x y : Nat) (hx : x < 256) (hy : y < 256) (s : S) (hs : sum 138 [.ptr b o, byteV x, byteV y] s = none) (F : FieldAt s b o) :
    callN (ctx sum ext orc) lf (d + 1) 138 [.ptr b o, byteV x, byteV y] s = some (byteV (mulN x y), s) := by
  have hft : (ctx sum ext orc).ft.get 138 = some Tryd.f138 := by kernel_rfl
  have hsum : (ctx sum ext orc).sum 138 [.ptr b o, byteV x, byteV y] s = none := hs
  simp only [callN, callStep, hsum, hft]
  rw [show Tryd.f138.body = some _ from rfl]
  simp only [Tryd.f138, List.length_cons, List.length_nil, show Nat.ble (0 + 1 + 1 + 1) 33 = true from rfl, cond_true, T.ofListFrom]
  have e0 : ∀ (n : Nat) (q : Bool), eqF (Int.ofNat n) 0 = q ↔ decide (n = 0) = q := by
    intro n q; rw [show (0 : Int) = Int.ofNat 0 from rfl, eqF_nat]
  by_cases hx0 : x = 0
  · have h1 : eqF (Int.ofNat x) 0 = true := (e0 _ _).2 (by simpa using hx0)
    simp only [codeV_ret, codeV_region, codeV_seq, codeV_cond, seqV, wantedV, stepV, clsOf, pureV, pureV0, ev, toV, toV0, putT_eq, T.get_set, binV, intBin, kindEq, nth, Option.bind_some, Option.getD_some, reduceIte, cond_true, Nat.reduceLT, Nat.reduceEqDiff, T.get_leaf, bq2, byteV, h1, resV, packV]
    simp [mulN, hx0]
  have h1 : eqF (Int.ofNat x) 0 = false := (e0 _ _).2 (by simpa using hx0)
  by_cases hy0 : y = 0
  · have h2 : eqF (Int.ofNat y) 0 = true := (e0 _ _).2 (by simpa using hy0)
    simp only [codeV_ret, codeV_region, codeV_seq, codeV_cond, seqV, wantedV, stepV, clsOf, pureV, pureV0, ev, toV, toV0, putT_eq, T.get_set, binV, intBin, kindEq, nth, Option.bind_some, Option.getD_some, reduceIte, cond_true, Nat.reduceLT, Nat.reduceEqDiff, beq_self_eq_true, T.get_leaf, byteV, h1, h2, resV, packV]
    simp [mulN, hx0, hy0]
  have h2 : eqF (Int.ofNat y) 0 = false := (e0 _ _).2 (by simpa using hy0)
  have c1 := F (510 + x) (by omega)
  have c2 := F (510 + y) (by omega)
  have l1 := log_lt hx
  have l2 := log_lt hy
  have c3 := F (tabN (510 + x) + tabN (510 + y)) (by omega)
  have b1 : Nat.blt x 256 = true := by rw [Nat.blt_eq]; exact hx
  have b2 : Nat.blt y 256 = true := by rw [Nat.blt_eq]; exact hy
  have b3 : Nat.blt (tabN (510 + x) + tabN (510 + y)) 510 = true := by rw [Nat.blt_eq]; omega
  have w1 : wrapF .i64 (Int.ofNat (tabN (510 + x))) = Int.ofNat (tabN (510 + x)) := wrap_nat (by omega)
  have w2 : wrapF .i64 (Int.ofNat (tabN (510 + y))) = Int.ofNat (tabN (510 + y)) := wrap_nat (by omega)
  have w3 : wrapF .i64 (Int.ofNat (tabN (510 + x)) + Int.ofNat (tabN (510 + y))) = Int.ofNat (tabN (510 + x) + tabN (510 + y)) := wrap_nat (a := tabN (510 + x) + tabN (510 + y)) (by omega)
  rw [← Nat.add_assoc] at c1 c2
  simp only [byteV] at c1 c2 c3
  simp only [codeV_skip, codeV_ret, codeV_region, codeV_seq, codeV_cond, seqV, wantedV, stepV, clsOf, pureV, pureV0, ev, toV, toV0, putT_eq, T.get_set, binV, intBin, convV, kindEq, nth, Option.bind_some, ctx_tt, ctx_ng, tt3, tt5, Option.getD_some, Option.getD_none, reduceIte, cond_true, cond_false, Nat.reduceLT, Nat.reduceEqDiff, beq_self_eq_true, T.get_leaf, natBeq, decide_false, Bool.and_true, byteV, h1, h2, codeV_draw rix138, drawV, recsV, looksOk, allR, allN, memFree, tt95, tt96, tt98, TI.isAgg, Nat.mul_one, Nat.add_zero, c1, c2, c3, b1, b2, b3, w1, w2, w3, resV, packV, Nat.zero_add, Nat.reduceAdd]
  rw [mulN, if_neg hx0, if_neg hy0]

/-- What stands at the place t when j rows are mixed in. -/
noncomputable def mixAt (row : Nat → Nat) (ys : Nat → Nat → Nat) : Nat → Nat → Nat
  | 0, _ => 0
  | j + 1, t => mixAt row ys j t ^^^ mulN (row j) (ys j t)
theorem mixAt_byte (row : Nat → Nat) (ys : Nat → Nat → Nat) : ∀ j t, mixAt row ys j t < 256
  | 0, _ => by simp [mixAt]
  | j + 1, t => Nat.xor_lt_two_pow (n := 8) (mixAt_byte row ys j t) (mulN_byte _ _)
theorem rix112 : (ctx sum ext orc).ri 112 9 = some ⟨[0, 1, 2, 3, 4, 5, 6, 7, 8, 9, 10, 11, 12], [], [[], [], [], [], [], [], [], [], [], [3]]⟩ := by kernel_rfl
/-- The state behind some of the mixing: the new row stands, all else as before. -/
structure Mixed (s s' : S) (size : Nat) (g : Nat → Nat) : Prop where
  here : s'.h.get s.next = some (.cells true .no (rowV size fun t => byteV (g t)))
  old : ∀ b, b ≠ s.next → s'.h.get b = s.h.get b
  next : s'.next = s.next + 1
theorem Mixed.cell {s s' : S} {size : Nat} {g : Nat → Nat} (M : Mixed s s' size g) (hlt : ∀ b, s.next ≤ b → s.h.get b = none) {b o : Nat} {v : V} (h : s.cellAt b o = some v) : s'.cellAt b o = some v := by
  have hb : b ≠ s.next := by
    intro e
    subst e
    simp only [S.cellAt, hlt _ (Nat.le_refl _)] at h
    cases h
  simp only [S.cellAt, M.old b hb] at h ⊢
  exact h
theorem Mixed.read {s s' : S} {size : Nat} {g : Nat → Nat} (M : Mixed s s' size g) {i : Nat} (hi : i < size) : s'.cellAt s.next i = some (byteV (g i)) := by
  simp only [S.cellAt, M.here]
  exact nth_rowV hi
theorem Mixed.put {s s' : S} {size : Nat} {g : Nat → Nat} (M : Mixed s s' size g) {i v : Nat} (hi : i < size) :
    ∃ s2, s'.put s.next i [byteV v] = some s2 ∧ Mixed s s2 size (fun t => if t = i then v else g t) ∧ s2.next = s'.next := by
  have hu := upd_rowV (f := fun t => byteV (g t)) (v := byteV v) hi
  refine ⟨{ s' with h := s'.h.set s.next (.cells true .no (rowV size fun t => if t = i then byteV v else byteV (g t))) }, ?_, ⟨?_, ?_, M.next⟩, rfl⟩
  · simp only [S.put, M.here]
    rw [show allScalar [byteV v] = true from rfl]
    simp only [hu]
  · simp only [T.get_set, if_true]
    congr 3
    funext t
    by_cases e : t = i <;> simp [e]
  · intro b hb
    simp only [T.get_set, if_neg hb]
    exact M.old b hb
theorem Mixed.congr {s s' : S} {size : Nat} {g g' : Nat → Nat} (M : Mixed s s' size g) (h : ∀ t, t < size → g t = g' t) : Mixed s s' size g' := by
  refine ⟨?_, M.old, M.next⟩
  rw [M.here]
  congr 2
  unfold rowV
  apply List.map_congr_left
  intro t ht
  rw [h t (by simpa using ht)]
theorem mulN_zero (y : Nat) : mulN 0 y = 0 := by simp [mulN]
theorem xor_u8 {a b : Nat} (ha : a < 256) (hb : b < 256) : bitsV .xor .u8 (.ofNat a) (.ofNat b) = some (.ofNat (a ^^^ b)) := by
  simp only [bitsV, lim, show Nat.blt a 256 = true by rw [Nat.blt_eq]; exact ha, show Nat.blt b 256 = true by rw [Nat.blt_eq]; exact hb, Bool.and_self, cond_true]
theorem nble_refl (n : Nat) : Nat.ble n n = true := by rw [Nat.ble_eq]; omega
theorem eqF_refl (x : Int) : eqF x x = true := by rw [eqF_eq]; simp
theorem mix_run (lf d bc br ro cr k size : Nat) (er : Bool) (rr : Nat) (ck : Nat) (row : Nat → Nat) (ys : Nat → Nat → Nat) (B O C : Nat → Nat) (E : Nat → Bool) (s : S) (eb : Bool)
    (F : FieldAt s bc 2) (hrow : ∀ j, j < k → row j < 256 ∧ s.cellAt br (ro + j) = some (byteV (row j)))
    (hrows : ∀ j, j < k → s.cellAt rr j = some (.sl (B j) (O j) size (C j) 1 (E j)))
    (hys : ∀ j t, j < k → t < size → ys j t < 256 ∧ s.cellAt (B j) (O j + t) = some (byteV (ys j t)))
    (hsz : size < lf) (hsz2 : size < 1000000000) (hk : k < lf) (hk2 : k < 1000000) (hs : ∀ a s, sum 112 a s = none) (hs2 : ∀ a s, sum 138 a s = none) (hx2 : ∀ a s, ext 138 a s = none)
    (hlt : ∀ b, s.next ≤ b → s.h.get b = none) :
    ∃ s', callN (ctx sum ext orc) lf (d + 2) 112 [.ptr bc 0, .sl br ro k cr 1 er, .sl rr 0 k ck 1 eb, .int .i64 (Int.ofNat size)] s = some (.sl s.next 0 size size 1 true, s') ∧ Mixed s s' size (mixAt row ys k) := by
  have hft : (ctx sum ext orc).ft.get 112 = some Tryd.f112 := by kernel_rfl
  have hsum : ∀ a s, (ctx sum ext orc).sum 112 a s = none := hs
  unfold callN
  simp only [callStep, hsum, hft]
  rw [show Tryd.f112.body = some _ from rfl]
  simp only [Tryd.f112, List.length_cons, List.length_nil, show Nat.ble (0 + 1 + 1 + 1 + 1) 50 = true from rfl, cond_true, T.ofListFrom]
  have hb1 : Nat.ble size 1099511627776 = true := by rw [Nat.ble_eq]; omega
  have hb2 : Nat.ble (1 * size) 1099511627776 = true := by rw [Nat.ble_eq]; omega
  have hb3 : Nat.ble size size = true := by rw [Nat.ble_eq]; omega
  simp only [codeV_ret, codeV_region, codeV_seq, codeV_block, codeV_loop, seqV, wantedV, stepV, clsOf, pureV, pureV0, ev, toV, toV0, evs, putT_eq, T.get_set, lenV, ctx_tt, tt5, Option.getD_some, reduceIte, cond_true, Nat.reduceLT, Nat.reduceEqDiff, T.get_leaf, natBeq, Bool.and_true, allocV, tt110, TI.zero, V.cells, hb1, hb2, hb3, Nat.reduceAdd, Nat.zero_add]
  have hft2 : (ctx sum ext orc).ft.get 138 = some Tryd.f138 := by kernel_rfl
  obtain ⟨code2, hb138⟩ : ∃ code, Tryd.f138.body = some code := ⟨_, rfl⟩
  have hext2 : ∀ a s, (ctx sum ext orc).ext 138 a s = none := hx2
  have M0 : Mixed s (s.new (.cells true .no (repeatV [V.int .u8 0] size))) size (mixAt row ys 0) := by
    refine ⟨?_, fun b hb => ?_, rfl⟩
    · simp only [S.new, T.get_set, if_true]
      congr 2
      have : ∀ n : Nat, repeatV [V.int .u8 0] n = rowV n fun _ => byteV 0 := by
        intro n
        induction n with
        | zero => rfl
        | succ n ih =>
          rw [repeatV, ih]
          simp only [rowV]
          apply List.ext_getElem?
          intro i
          cases i with
          | zero => simp; rfl
          | succ i => simp []; by_cases h : i < n <;> simp [h]
      exact this size
    · simp only [S.new, T.get_set, if_neg hb]
  generalize hL : loopV _ _ _ _ _ _ _ _ = L
  obtain ⟨e, tm', s', rfl, he, hp⟩ := loopV_for hL k
    (fun j tm s' => Mixed s s' size (mixAt row ys j) ∧ tm.get 0 = some (.ptr bc 0) ∧ tm.get 2 = some (.sl rr 0 k ck 1 eb) ∧ tm.get 9 = some (.sl s.next 0 size size 1 true) ∧ tm.get 16 = some (.sl br ro k cr 1 er) ∧
      tm.get 17 = some (.int .i64 (Int.ofNat k)) ∧ tm.get 18 = some (.int .i64 (Int.ofNat j)))
    (fun e tm s' => e = .exit 0 ∧ Mixed s s' size (mixAt row ys k) ∧ tm.get 9 = some (.sl s.next 0 size size 1 true))
    (by
      intro j tm s' hj ⟨M, h0, h2, h9, h16, h17, h18⟩
      have hlt1 : ltF (Int.ofNat j) (Int.ofNat k) = true := by rw [ltF_nat]; simpa using hj
      have hw : wrapF .i64 (Int.ofNat j + 1) = Int.ofNat (j + 1) := wrap_nat (a := j + 1) (by omega)
      have hb : Nat.blt j k = true := by rw [Nat.blt_eq]; exact hj
      obtain ⟨hr1, hr2⟩ := hrow j hj
      have hr3 := M.cell hlt hr2
      have hr4 := M.cell hlt (hrows j hj)
      simp only [byteV] at hr3
      have e0 : ∀ (n : Nat) (q : Bool), eqF (Int.ofNat n) 0 = q ↔ decide (n = 0) = q := by
        intro n q; rw [show (0 : Int) = Int.ofNat 0 from rfl, eqF_nat]
      by_cases hz : row j = 0
      · have h1 : eqF (Int.ofNat (row j)) 0 = true := (e0 _ _).2 (by simpa using hz)
        simp only [codeV_skip, codeV_exit, codeV_region, codeV_seq, codeV_cond, codeV_block, seqV, wantedV, stepV, clsOf, pureV, pureV0, ev, toV, toV0, putT_eq, T.get_set, binV, intBin, kindEq, ctx_tt, tt5, Option.getD_some, reduceIte, cond_true, Nat.reduceLT, Nat.reduceEqDiff, Nat.beq_refl, Bool.and_true, h16, h17, h18, hlt1, hw, hb, hr3, h1, tt110, Nat.mul_one, TI.isAgg]
        refine ⟨_, _, _, rfl, .inl ⟨rfl, M.congr fun t _ => ?_, ?_⟩⟩
        · simp [mixAt, hz, mulN_zero]
        · simp [T.get_set, h0, h2, h9, h16, h17]
      have h1 : eqF (Int.ofNat (row j)) 0 = false := (e0 _ _).2 (by simpa using hz)
      simp only [codeV_skip, codeV_region, codeV_seq, codeV_cond, codeV_block, codeV_loop, seqV, wantedV, stepV, clsOf, pureV, pureV0, ev, toV, toV0, evs, putT_eq, T.get_set, lenV, binV, intBin, kindEq, ctx_tt, ctx_ng, tt3, tt5, Option.getD_some, reduceIte, cond_true, cond_false, Nat.reduceLT, Nat.reduceEqDiff, Nat.beq_refl, natBeq, Bool.and_true, h2, h16, h17, h18, hlt1, hb, hr3, hr4, h1, tt110, tt100, Nat.mul_one, Nat.zero_add, TI.isAgg]
      generalize hL2 : loopV _ _ _ _ _ _ _ _ = L2
      obtain ⟨e2, tm2, s2, rfl, he2, hp2⟩ := loopV_for hL2 size
        (fun i tm s' => Mixed s s' size (fun t => if t < i then mixAt row ys (j + 1) t else mixAt row ys j t) ∧ tm.get 0 = some (.ptr bc 0) ∧ tm.get 2 = some (.sl rr 0 k ck 1 eb) ∧ tm.get 9 = some (.sl s.next 0 size size 1 true) ∧
          tm.get 16 = some (.sl br ro k cr 1 er) ∧ tm.get 17 = some (.int .i64 (Int.ofNat k)) ∧ tm.get 18 = some (.int .i64 (Int.ofNat j)) ∧ tm.get 11 = some (.int .u8 (Int.ofNat (row j))) ∧
          tm.get 28 = some (.sl (B j) (O j) size (C j) 1 (E j)) ∧ tm.get 29 = some (.int .i64 (Int.ofNat size)) ∧ tm.get 30 = some (.int .i64 (Int.ofNat i)))
        (fun e tm s' => e = .exit 2 ∧ Mixed s s' size (mixAt row ys (j + 1)) ∧ tm.get 0 = some (.ptr bc 0) ∧ tm.get 2 = some (.sl rr 0 k ck 1 eb) ∧ tm.get 9 = some (.sl s.next 0 size size 1 true) ∧
          tm.get 16 = some (.sl br ro k cr 1 er) ∧ tm.get 17 = some (.int .i64 (Int.ofNat k)) ∧ tm.get 18 = some (.int .i64 (Int.ofNat j)))
        (by
          intro i tm s' hi ⟨M, h0, h2, h9, h16, h17, h18, h11, h28, h29, h30⟩
          have hlt2 : ltF (Int.ofNat i) (Int.ofNat size) = true := by rw [ltF_nat]; simpa using hi
          have hwi : wrapF .i64 (Int.ofNat i + 1) = Int.ofNat (i + 1) := wrap_nat (a := i + 1) (by omega)
          have hbi : Nat.blt i size = true := by rw [Nat.blt_eq]; exact hi
          obtain ⟨hy1, hy2⟩ := hys j i hj hi
          have hy3 := M.cell hlt hy2
          have ho := M.read hi
          have hF : FieldAt s' bc 2 := fun q hq => M.cell hlt (F q hq)
          have hmul := mul_run (sum := sum) (ext := ext) (orc := orc) lf d bc 2 (row j) (ys j i) hr1 hy1 s' (hs2 _ _) hF
          have hgi : (if i < i then mixAt row ys (j + 1) i else mixAt row ys j i) = mixAt row ys j i := if_neg (Nat.lt_irrefl i)
          rw [hgi] at ho
          have hx := xor_u8 (mixAt_byte row ys j i) (mulN_byte (row j) (ys j i))
          obtain ⟨s2, hput, M2, hnx⟩ := M.put (v := mixAt row ys (j + 1) i) hi
          simp only [byteV] at hy3 ho hmul
          rw [show byteV (mixAt row ys (j + 1) i) = V.int .u8 (Int.ofNat (mixAt row ys j i ^^^ mulN (row j) (ys j i))) from rfl] at hput
          simp only [codeV_skip, codeV_region, codeV_seq, codeV_cond, codeV_block, seqV, wantedV, stepV, clsOf, pureV, pureV0, ev, toV, toV0, evs, putT_eq, putT_none, T.get_set, binV, intBin, kindEq, nth, ctx_tt, ctx_ng, tt5, Option.getD_some, Option.getD_none, reduceIte, cond_true, cond_false, Nat.reduceLT, Nat.reduceEqDiff, Nat.beq_refl, natBeq, decide_false, decide_true, Bool.and_true, h0, h9, h11, h28, h29, h30, hlt2, hwi, hbi, hy3, ho, tt110, tt102, Nat.mul_one, Nat.zero_add, TI.isAgg, codeV_draw rix112, drawV, recsV, looksOk, allR, allN, memFree, effV, hext2, hft2, hb138, List.append_nil, hmul, hx, V.cells, List.length_cons, List.length_nil, hput, hnx, nble_refl, sameRead, beqV, eqF_refl]
          refine ⟨_, _, _, rfl, .inl ⟨rfl, M2.congr fun t ht => ?_, by simp [T.get_set, h0], by simp [T.get_set, h2], by simp [T.get_set, h9], by simp [T.get_set, h16], by simp [T.get_set, h17], by simp [T.get_set, h18], by simp [T.get_set, h11], by simp [T.get_set, h28], by simp [T.get_set, h29], by simp [T.get_set]⟩⟩
          by_cases e : t = i
          · subst e; rw [if_pos rfl, if_pos (Nat.lt_succ_self _)]
          · rw [if_neg e]
            by_cases e2 : t < i
            · rw [if_pos e2, if_pos (by omega)]
            · rw [if_neg e2, if_neg (by omega)])
        (by
          intro tm s' ⟨M, h0, h2, h9, h16, h17, h18, h11, h28, h29, h30⟩
          have hlt2 : ltF (Int.ofNat size) (Int.ofNat size) = false := by rw [ltF_nat]; simp
          simp only [codeV_exit, codeV_region, codeV_seq, codeV_cond, seqV, wantedV, stepV, clsOf, pureV, pureV0, ev, putT_eq, T.get_set, binV, intBin, kindEq, Option.getD_some, reduceIte, cond_true, Nat.reduceLT, h29, h30, hlt2]
          exact ⟨_, _, _, rfl, rfl, rfl, M.congr fun t ht => by rw [if_pos ht], by simp [T.get_set, h0], by simp [T.get_set, h2], by simp [T.get_set, h9], by simp [T.get_set, h16], by simp [T.get_set, h17], by simp [T.get_set, h18]⟩)
        0 (Nat.zero_le _) (by omega) ⟨M.congr fun t _ => by rw [if_neg (by omega)], by simp [T.get_set, h0], by simp [T.get_set, h2], by simp [T.get_set, h9], by simp [T.get_set, h16], by simp [T.get_set, h17], by simp [T.get_set, h18], by simp [T.get_set], by simp [T.get_set], by simp [T.get_set], by simp [T.get_set]⟩
      obtain ⟨rfl, M2, h0, h2, h9, h16, h17, h18⟩ := hp2
      simp only [Option.getD_some, cond_true, decide_true, h18, hw]
      exact ⟨_, _, _, rfl, .inl ⟨rfl, M2, by simp [T.get_set, h0], by simp [T.get_set, h2], by simp [T.get_set, h9], by simp [T.get_set, h16], by simp [T.get_set, h17], by simp [T.get_set]⟩⟩)
    (by
      intro tm s' ⟨M, h0, h2, h9, h16, h17, h18⟩
      have hlt1 : ltF (Int.ofNat k) (Int.ofNat k) = false := by rw [ltF_nat]; simp
      simp only [codeV_exit, codeV_region, codeV_seq, codeV_cond, seqV, wantedV, stepV, clsOf, pureV, pureV0, ev, putT_eq, T.get_set, binV, intBin, kindEq, Option.getD_some, reduceIte, cond_true, Nat.reduceLT, h17, h18, hlt1]
      exact ⟨_, _, _, rfl, rfl, rfl, M, by simp [T.get_set, h9]⟩)
    0 (Nat.zero_le _) (by omega) ⟨M0, by simp [T.get_set], by simp [T.get_set], by simp [T.get_set], by simp [T.get_set], by simp [T.get_set], by simp [T.get_set]⟩
  obtain ⟨rfl, M, h9⟩ := hp
  simp only [T.get_set, Option.getD_some, reduceIte, cond_true, Nat.reduceEqDiff, decide_true, resV, packV, h9]
  exact ⟨_, rfl, M⟩

theorem size_run (lf d bc k n : Nat) (hk : 0 < k) (hk2 : k < 1000000000) (hn : n < 1000000000) (s : S) (hs : ∀ a s, sum 34 a s = none) (hc : s.cellAt bc 0 = some (.int .i64 (Int.ofNat k))) :
    callN (ctx sum ext orc) lf (d + 1) 34 [.ptr bc 0, .int .i64 (Int.ofNat n)] s = some (.int .i64 (Int.ofNat ((n + k - 1) / k)), s) := by
  have hft : (ctx sum ext orc).ft.get 34 = some Tryd.f34 := by kernel_rfl
  have hsum : ∀ a s, (ctx sum ext orc).sum 34 a s = none := hs
  simp only [callN, callStep, hsum, hft]
  rw [show Tryd.f34.body = some _ from rfl]
  simp only [Tryd.f34, List.length_cons, List.length_nil, show Nat.ble (0 + 1 + 1) 24 = true from rfl, cond_true, T.ofListFrom]
  have e0 : ∀ (n : Nat) (q : Bool), ltF 0 (Int.ofNat n) = q ↔ decide (0 < n) = q := by
    intro n q; rw [show (0 : Int) = Int.ofNat 0 from rfl, ltF_nat]
  by_cases h0 : n = 0
  · subst h0
    have h1 : ltF 0 (Int.ofNat 0) = false := (e0 _ _).2 (by simp)
    simp only [codeV_ret, codeV_region, codeV_seq, codeV_cond, seqV, wantedV, stepV, clsOf, pureV, pureV0, ev, toV, toV0, putT_eq, T.get_set, binV, intBin, kindEq, Option.getD_some, reduceIte, cond_true, Nat.reduceLT, Nat.reduceEqDiff, T.get_leaf, Bool.not_false, h1, resV, packV, Nat.zero_add]
    congr 3
    rw [Nat.div_eq_of_lt (by omega)]; rfl
  have h1 : ltF 0 (Int.ofNat n) = true := (e0 _ _).2 (by simp; omega)
  have hz : eqF (Int.ofNat k) 0 = false := by rw [show (0 : Int) = Int.ofNat 0 from rfl, eqF_nat]; simp; omega
  have hq : wrapF .i64 ((Int.ofNat n).tdiv (Int.ofNat k)) = Int.ofNat (n / k) := by
    rw [show (Int.ofNat n).tdiv (Int.ofNat k) = Int.ofNat (n / k) from rfl]
    exact wrap_nat (Nat.lt_of_le_of_lt (Nat.div_le_self _ _) (by omega))
  have hr : (Int.ofNat n).tmod (Int.ofNat k) = Int.ofNat (n % k) := rfl
  have hd := Nat.div_add_mod n k
  have hm := Nat.mod_lt n hk
  have hle := Nat.div_le_self n k
  by_cases h2 : n % k = 0
  · have h3 : ltF 0 (Int.ofNat (n % k)) = false := (e0 _ _).2 (by simp [h2])
    simp only [codeV_skip, codeV_ret, codeV_region, codeV_seq, codeV_cond, seqV, wantedV, stepV, clsOf, pureV, pureV0, ev, toV, toV0, putT_eq, T.get_set, binV, intBin, kindEq, nth, ctx_tt, tt3, Option.getD_some, reduceIte, cond_true, cond_false, Nat.reduceLT, Nat.reduceEqDiff, T.get_leaf, Bool.not_true, natBeq, decide_false, h1, hz, hq, hr, h3, hc, tt102, TI.isAgg, resV, packV, Nat.zero_add, Nat.add_zero]
    congr 4
    symm
    apply Nat.div_eq_of_lt_le
    · rw [Nat.mul_comm]; omega
    · rw [Nat.succ_mul, Nat.mul_comm]; omega
  · have h3 : ltF 0 (Int.ofNat (n % k)) = true := (e0 _ _).2 (by simp; omega)
    have hw : wrapF .i64 (Int.ofNat (n / k) + 1) = Int.ofNat (n / k + 1) := wrap_nat (a := n / k + 1) (by omega)
    simp only [codeV_skip, codeV_ret, codeV_region, codeV_seq, codeV_cond, seqV, wantedV, stepV, clsOf, pureV, pureV0, ev, toV, toV0, putT_eq, T.get_set, binV, intBin, kindEq, nth, ctx_tt, tt3, Option.getD_some, reduceIte, cond_true, cond_false, Nat.reduceLT, Nat.reduceEqDiff, T.get_leaf, Bool.not_true, natBeq, decide_false, h1, hz, hq, hr, h3, hc, hw, tt102, TI.isAgg, resV, packV, Nat.zero_add, Nat.add_zero]
    congr 4
    symm
    apply Nat.div_eq_of_lt_le
    · rw [Nat.succ_mul, Nat.mul_comm]; omega
    · rw [Nat.succ_mul, Nat.succ_mul, Nat.mul_comm]; omega

theorem cellAt_of {s : S} {b m : Nat} {rw : Bool} {tg : Tg} {f : Nat → V} (h : s.h.get b = some (.cells rw tg (rowV m f))) {i : Nat} (hi : i < m) : s.cellAt b i = some (f i) := by
  simp only [S.cellAt, h]
  exact nth_rowV hi
theorem put_of {s : S} {b m : Nat} {tg : Tg} {f : Nat → V} (h : s.h.get b = some (.cells true tg (rowV m f))) {i : Nat} (hi : i < m) {v : V} (hv : v.scalar = true) :
    s.put b i [v] = some { s with h := s.h.set b (.cells true tg (rowV m fun t => if t = i then v else f t)) } := by
  simp only [S.put, h]
  rw [show allScalar [v] = true by simp [allScalar, hv]]
  simp only [upd_rowV hi]
theorem repeat_rowV (v : V) : ∀ n : Nat, repeatV [v] n = rowV n fun _ => v
  | 0 => rfl
  | n + 1 => by
    rw [repeatV, repeat_rowV v n]
    simp only [rowV]
    apply List.ext_getElem?
    intro i
    cases i with
    | zero => simp
    | succ i => simp []; by_cases h : i < n <;> simp [h]
/-- The bytes of a value, and zeros behind them. -/
def allF (l : List Nat) (t : Nat) : Nat := (l[t]?).getD 0
theorem allF_byte {l : List Nat} (h : ∀ n ∈ l, n < 256) (t : Nat) : allF l t < 256 := by
  unfold allF
  cases ht : l[t]? with
  | none => simp
  | some b => simp; exact h b (List.mem_of_getElem? ht)
theorem rowV_congr {n : Nat} {f g : Nat → V} (h : ∀ t, t < n → f t = g t) : rowV n f = rowV n g := by
  unfold rowV
  apply List.map_congr_left
  intro t ht
  exact h t (by simpa using ht)
theorem copy_all {c : Ctx} {s : S} {A m : Nat} {l : List Nat} {tg : Tg} (h110 : c.tt.get 110 = some ⟨.slice 5, 1, 24, .nilsl, false, false⟩) (h5 : c.tt.get 5 = some ⟨.int .u8, 1, 1, .int .u8 (0), false, false⟩)
    (hA : s.h.get A = some (.cells true tg (rowV m fun _ => byteV 0))) (hl : l.length ≤ m) :
    ∃ v s', copyV c s 110 (.sl A 0 m m 1 true) (.str l) = some (v, s') ∧ s'.next = s.next ∧ s'.h.get A = some (.cells true tg (rowV m fun t => byteV (allF l t))) ∧ ∀ b, b ≠ A → s'.h.get b = s.h.get b := by
  unfold copyV
  simp only [h110, h5]
  have hmin : Nat.min l.length m = l.length := Nat.min_eq_left hl
  rw [hmin]
  cases hn : l.length with
  | zero =>
    have : l = [] := List.eq_nil_of_length_eq_zero hn
    subst this
    exact ⟨_, _, rfl, rfl, by rw [hA]; rfl, fun _ _ => rfl⟩
  | succ n =>
    have ht : takeN (n + 1) l = some l := by
      have key : ∀ (l : List Nat), takeN l.length l = some l := by
        intro l
        induction l with
        | nil => rfl
        | cons a l ih => simp [takeN, ih]
      rw [← hn]; exact key l
    simp only [show Nat.beq 1 1 = true from rfl, cond_true, ht]
    obtain ⟨r, hr⟩ := upd_ok (rowV m fun _ => byteV 0) 0 (l.map byteV) (by rw [rowV_len]; simpa using hl)
    have hr2 : r = rowV m fun t => byteV (allF l t) := by
      obtain ⟨h1, h2, h3⟩ := upd_some _ _ _ _ hr
      apply List.ext_getElem?
      intro i
      rw [h3 i]
      simp only [List.length_map, rowV, List.getElem?_map, Nat.zero_le, true_and, Nat.zero_add, Nat.sub_zero]
      by_cases hi : i < l.length
      · rw [if_pos hi, List.getElem?_range (by omega)]
        simp [allF, List.getElem?_eq_getElem hi]
      · rw [if_neg hi]
        by_cases hm : i < m
        · rw [List.getElem?_range hm]; simp [allF, List.getElem?_eq_none (Nat.le_of_not_lt hi)]
        · simp [hm]
    have hput : s.put A 0 (l.map byteV) = some { s with h := s.h.set A (.cells true tg r) } := by
      simp only [S.put, hA]
      have : ∀ l : List Nat, allScalar (l.map byteV) = true := by
        intro l
        induction l with
        | nil => rfl
        | cons a l ih => simp [allScalar, ih, byteV, V.scalar]
      rw [this l]
      simp only [hr]
    simp only [hput]
    refine ⟨_, _, rfl, rfl, by simp only [T.get_set, if_true, hr2], fun b hb => by simp only [T.get_set, if_neg hb]⟩

/-- A fragment of a value. -/
noncomputable def encL (l : List Nat) (k size : Nat) (row : Nat → Nat) : List Nat := (List.range size).map (mixAt row (fun j t => allF l (j * size + t)) k)
/-- The state while fragments are made. -/
structure Encd (s s' : S) (k n size i : Nat) (l : List Nat) (row : Nat → Nat → Nat) : Prop where
  old : ∀ b, b < s.next → s'.h.get b = s.h.get b
  all : s'.h.get s.next = some (.cells true .no (rowV (k * size) fun t => byteV (allF l t)))
  data : s'.h.get (s.next + 1) = some (.cells true .no (rowV k fun j => .sl s.next (j * size) size (k * size - j * size) 1 true))
  out : s'.h.get (s.next + 2) = some (.cells true .no (rowV n fun t => if t < i then .str (encL l k size (row t)) else .str []))
  next : s'.next = s.next + 3 + i
  lt : ∀ b, s'.next ≤ b → s'.h.get b = none
theorem conv_str {c : Ctx} {s : S} {b size : Nat} {g : Nat → Nat} (h110 : c.tt.get 110 = some ⟨.slice 5, 1, 24, .nilsl, false, false⟩) (h5 : c.tt.get 5 = some ⟨.int .u8, 1, 1, .int .u8 (0), false, false⟩) (h9 : c.tt.get 9 = some ⟨.str, 1, 16, .str [], false, false⟩)
    (hb : s.h.get b = some (.cells true .no (rowV size fun t => byteV (g t)))) (hg : ∀ t, g t < 256) : convV c s 110 9 (.sl b 0 size size 1 true) = some (.str ((List.range size).map g)) := by
  unfold convV
  simp only [h110, h9, h5]
  by_cases hz : size = 0
  · subst hz; rfl
  · rw [show Nat.beq size 0 = false by rw [natBeq]; simp [hz]]
    have : s.cellsAt b 0 size = some (rowV size fun t => byteV (g t)) := by
      simp only [S.cellsAt, hb]
      rw [sub_rowV (by omega)]
      simp
    simp only [this, bytesOf_rowV hg]
theorem Encd.cell {s s' : S} {k n size i : Nat} {l : List Nat} {row : Nat → Nat → Nat} (E : Encd s s' k n size i l row) (hlt : ∀ b, s.next ≤ b → s.h.get b = none) {b o : Nat} {v : V} (h : s.cellAt b o = some v) : s'.cellAt b o = some v := by
  have hb : b < s.next := by
    rcases Nat.lt_or_ge b s.next with h' | h'
    · exact h'
    · simp only [S.cellAt, hlt _ h'] at h; cases h
  simp only [S.cellAt, E.old b hb] at h ⊢
  exact h
theorem Encd.more {s s' sm : S} {k n size i : Nat} {l : List Nat} {row : Nat → Nat → Nat} (E : Encd s s' k n size i l row) {g : Nat → Nat} (M : Mixed s' sm size g) :
    sm.h.get (s.next + 2) = some (.cells true .no (rowV n fun t => if t < i then .str (encL l k size (row t)) else .str [])) ∧
    Encd s { sm with h := sm.h.set (s.next + 2) (.cells true .no (rowV n fun t => if t = i then .str (encL l k size (row i)) else (if t < i then .str (encL l k size (row t)) else .str []))) } k n size (i + 1) l row := by
  have hn := E.next
  have same : ∀ b, b < s'.next → sm.h.get b = s'.h.get b := fun b hb => M.old b (by omega)
  refine ⟨by rw [same _ (by omega)]; exact E.out, ⟨fun b hb => ?_, ?_, ?_, ?_, ?_, fun b hb => ?_⟩⟩
  · simp only [T.get_set, if_neg (show b ≠ s.next + 2 by omega)]
    rw [same _ (by omega)]; exact E.old b hb
  · simp only [T.get_set, if_neg (show s.next ≠ s.next + 2 by omega)]
    rw [same _ (by omega)]; exact E.all
  · simp only [T.get_set, if_neg (show s.next + 1 ≠ s.next + 2 by omega)]
    rw [same _ (by omega)]; exact E.data
  · simp only [T.get_set, if_true]
    congr 2
    apply rowV_congr
    intro t ht
    by_cases e : t = i
    · subst e; rw [if_pos rfl, if_pos (Nat.lt_succ_self _)]
    · rw [if_neg e]
      by_cases e2 : t < i
      · rw [if_pos e2, if_pos (by omega)]
      · rw [if_neg e2, if_neg (by omega)]
  · have := M.next
    simp only; omega
  · have h1 := M.next
    simp only at hb
    simp only [T.get_set, if_neg (show b ≠ s.next + 2 by omega)]
    rw [M.old b (by omega)]
    exact E.lt b (by omega)
theorem encode_run (lf d bc k n rr cr : Nat) (er : Bool) (RB RC : Nat → Nat) (RE : Nat → Bool) (row : Nat → Nat → Nat) (l : List Nat) (s : S)
    (hk : 0 < k) (hk2 : k < 1000) (hn2 : n < 1000) (hkl : k < lf) (hnl : n < lf) (hll : l.length < lf) (hl2 : l.length < 1000000) (hlb : ∀ b ∈ l, b < 256)
    (hc0 : s.cellAt bc 0 = some (.int .i64 (Int.ofNat k))) (hc1 : s.cellAt bc 1 = some (.int .i64 (Int.ofNat n))) (F : FieldAt s bc 2) (hc2 : s.cellAt bc 768 = some (.sl rr 0 n cr 1 er))
    (hrows : ∀ i, i < n → s.cellAt rr i = some (.sl (RB i) 0 k (RC i) 1 (RE i))) (hrow : ∀ i j, i < n → j < k → row i j < 256 ∧ s.cellAt (RB i) j = some (byteV (row i j)))
    (hs : ∀ a s, sum 34 a s = none) (hs1 : ∀ a s, sum 81 a s = none) (hs2 : ∀ a s, sum 112 a s = none) (hs3 : ∀ a s, sum 138 a s = none) (hx : ∀ f a s, ext f a s = none)
    (hlt : ∀ b, s.next ≤ b → s.h.get b = none) :
    ∃ s', callN (ctx sum ext orc) lf (d + 3) 81 [.ptr bc 0, .str l] s = some (.sl (s.next + 2) 0 n n 1 true, s') ∧ Encd s s' k n ((l.length + k - 1) / k) n l row := by
  have hft : (ctx sum ext orc).ft.get 81 = some Tryd.f81 := by kernel_rfl
  have hft2 : (ctx sum ext orc).ft.get 34 = some Tryd.f34 := by kernel_rfl
  have hft3 : (ctx sum ext orc).ft.get 112 = some Tryd.f112 := by kernel_rfl
  obtain ⟨code2, hb34⟩ : ∃ code, Tryd.f34.body = some code := ⟨_, rfl⟩
  obtain ⟨code3, hb112⟩ : ∃ code, Tryd.f112.body = some code := ⟨_, rfl⟩
  have hsum : ∀ a s, (ctx sum ext orc).sum 81 a s = none := hs1
  have hext : ∀ f a s, (ctx sum ext orc).ext f a s = none := hx
  have hsz := size_run (sum := sum) (ext := ext) (orc := orc) lf (d + 1) bc k l.length hk (by omega) (by omega) s hs hc0
  generalize hsize : (l.length + k - 1) / k = size at hsz ⊢
  have hd := Nat.div_add_mod (l.length + k - 1) k
  have hm := Nat.mod_lt (l.length + k - 1) hk
  rw [hsize] at hd
  have hge : l.length ≤ k * size := by omega
  have hle : size ≤ l.length := by
    rw [← hsize]
    rcases Nat.eq_zero_or_pos l.length with h | h
    · rw [h, Nat.div_eq_of_lt (by omega)]; omega
    · apply Nat.le_of_lt_succ
      rw [Nat.div_lt_iff_lt_mul hk, Nat.succ_mul]
      have : l.length ≤ l.length * k := Nat.le_mul_of_pos_right _ hk
      omega
  have hks : k * size < 2000000000 := by
    have : k * size ≤ l.length + k := by omega
    omega
  unfold callN
  simp only [callStep, hsum, hft]
  rw [show Tryd.f81.body = some _ from rfl]
  simp only [Tryd.f81, List.length_cons, List.length_nil, show Nat.ble (0 + 1 + 1) 75 = true from rfl, cond_true, T.ofListFrom]
  have hmul : wrapF .i64 (Int.ofNat k * Int.ofNat size) = Int.ofNat (k * size) := wrap_nat (a := k * size) (by omega)
  have hb1 : Nat.ble (k * size) 1099511627776 = true := by rw [Nat.ble_eq]; omega
  have hb2 : Nat.ble (1 * (k * size)) 1099511627776 = true := by rw [Nat.ble_eq]; omega
  have hb4 : Nat.ble k 1099511627776 = true := by rw [Nat.ble_eq]; omega
  have hb5 : Nat.ble (24 * k) 1099511627776 = true := by rw [Nat.ble_eq]; omega
  let s1 : S := s.new (.cells true .no (rowV (k * size) fun _ => byteV 0))
  have hA : s1.h.get s.next = some (.cells true .no (rowV (k * size) fun _ => byteV 0)) := by simp only [s1, S.new, T.get_set, if_true]
  obtain ⟨v2, s2, hcopy, hn2', hA2, hold2⟩ := copy_all (c := ctx sum ext orc) tt110 tt5 hA hge
  have hrep := repeat_rowV (V.int .u8 0) (k * size)
  have keep2 : ∀ b o v, s.cellAt b o = some v → s2.cellAt b o = some v := by
    intro b o v h
    have hb : b ≠ s.next := by
      intro e; subst e
      simp only [S.cellAt, hlt _ (Nat.le_refl _)] at h
      cases h
    simp only [S.cellAt, hold2 b hb, s1, S.new, T.get_set, if_neg hb] at h ⊢
    exact h
  have hcA := keep2 _ _ _ hc0
  have hcB := keep2 _ _ _ hc1
  have hcC := keep2 _ _ _ hc2
  have hsz' : callN (ctx sum ext orc) lf (d + 2) 34 [.ptr bc 0, .int .i64 (↑l.length)] s = some (.int .i64 (Int.ofNat size), s) := hsz
  have hcopy' : copyV (ctx sum ext orc) (s.new (.cells true .no (rowV (k * size) fun _ => V.int .u8 0))) 110 (.sl s.next 0 (k * size) (k * size) 1 true) (.str l) = some (v2, s2) := hcopy
  simp only [codeV_ret, codeV_region, codeV_seq, codeV_block, codeV_loop, seqV, wantedV, stepV, clsOf, pureV, pureV0, ev, toV, toV0, evs, putT_eq, T.get_set, lenV, binV, intBin, kindEq, nth, ctx_tt, ctx_ng, tt9, tt3, tt5, Option.getD_some, reduceIte, cond_true, cond_false, Nat.reduceLT, Nat.reduceEqDiff, T.get_leaf, natBeq, decide_false, Bool.and_true, allocV, tt110, tt100, tt28, tt102, TI.zero, TI.isAgg, V.cells, hb1, hb2, hb4, hb5, nble_refl, Nat.zero_add, Nat.add_zero, hsz', hc0, hmul, effV, hext, hft2, hb34, List.append_nil, hrep, hcopy', hcA]
  have hn2'' : s2.next = s.next + 1 := hn2'
  generalize hL : loopV _ _ _ _ _ _ _ _ = L
  obtain ⟨e, tm3, s3, rfl, he, hp⟩ := loopV_for hL k
    (fun i tm s' => s'.h.get s2.next = some (.cells true .no (rowV k fun j => if j < i then .sl s.next (j * size) size (k * size - j * size) 1 true else .nilsl)) ∧ (∀ b, b ≠ s2.next → s'.h.get b = s2.h.get b) ∧ s'.next = s2.next + 1 ∧
      tm.get 0 = some (.ptr bc 0) ∧ tm.get 5 = some (.int .i64 (Int.ofNat size)) ∧ tm.get 6 = some (.sl s.next 0 (k * size) (k * size) 1 true) ∧ tm.get 7 = some (.sl s2.next 0 k k 1 true) ∧ tm.get 32 = some (.int .i64 (Int.ofNat k)) ∧ tm.get 33 = some (.int .i64 (Int.ofNat i)))
    (fun e tm s' => e = .exit 0 ∧ s'.h.get s2.next = some (.cells true .no (rowV k fun j => .sl s.next (j * size) size (k * size - j * size) 1 true)) ∧ (∀ b, b ≠ s2.next → s'.h.get b = s2.h.get b) ∧ s'.next = s2.next + 1 ∧
      tm.get 0 = some (.ptr bc 0) ∧ tm.get 5 = some (.int .i64 (Int.ofNat size)) ∧ tm.get 7 = some (.sl s2.next 0 k k 1 true))
    (by
      intro i tm s' hi ⟨g1, g2, g3, h0, h5, h6, h7, h32, h33⟩
      have hlt1 : ltF (Int.ofNat i) (Int.ofNat k) = true := by rw [ltF_nat]; simpa using hi
      have hw : wrapF .i64 (Int.ofNat i + 1) = Int.ofNat (i + 1) := wrap_nat (a := i + 1) (by omega)
      have hb : Nat.blt i k = true := by rw [Nat.blt_eq]; exact hi
      have hsm : (i + 1) * size ≤ k * size := Nat.mul_le_mul_right _ hi
      have hsm2 : (i + 1) * size = i * size + size := Nat.succ_mul _ _
      have w1 : wrapF .i64 (Int.ofNat i * Int.ofNat size) = Int.ofNat (i * size) := wrap_nat (a := i * size) (by omega)
      have w2 : wrapF .i64 (Int.ofNat (i + 1) * Int.ofNat size) = Int.ofNat ((i + 1) * size) := wrap_nat (a := (i + 1) * size) (by omega)
      have q1 : Nat.ble (i * size) ((i + 1) * size) = true := by rw [Nat.ble_eq]; omega
      have q2 : Nat.ble ((i + 1) * size) (k * size) = true := by rw [Nat.ble_eq]; omega
      have q3 : (i + 1) * size - i * size = size := by omega
      have hput := put_of g1 hi (v := .sl s.next (i * size) size (k * size - i * size) 1 true) rfl
      simp only [codeV_skip, codeV_region, codeV_seq, codeV_cond, codeV_block, seqV, wantedV, stepV, clsOf, pureV, pureV0, ev, toV, toV0, putT_eq, putT_none, T.get_set, binV, intBin, kindEq, ctx_tt, tt5, Option.getD_some, reduceIte, cond_true, Nat.reduceLT, Nat.reduceEqDiff, Nat.beq_refl, Bool.and_true, h5, h6, h7, h32, h33, hlt1, hw, hb, w1, w2, q1, q2, q3, nble_refl, sliceV, optNat, natOf, tt110, tt100, tt5, effV, Nat.mul_one, Nat.zero_add, V.cells, List.length_cons, List.length_nil, hput, Option.isSome_some, Option.isSome_none, Option.isNone_none, Bool.or_true, Bool.or_false]
      refine ⟨_, _, _, rfl, .inl ⟨rfl, ?_, fun b hb => ?_, g3, by simp [T.get_set, h0], by simp [T.get_set, h5], by simp [T.get_set, h6], by simp [T.get_set, h7], by simp [T.get_set, h32], by simp [T.get_set]⟩⟩
      · simp only [T.get_set, if_true]
        congr 2
        apply rowV_congr
        intro t ht
        by_cases e : t = i
        · subst e; rw [if_pos rfl, if_pos (Nat.lt_succ_self _)]
        · rw [if_neg e]
          by_cases e2 : t < i
          · rw [if_pos e2, if_pos (by omega)]
          · rw [if_neg e2, if_neg (by omega)]
      · simp only [T.get_set, if_neg hb]
        exact g2 b hb)
    (by
      intro tm s' ⟨g1, g2, g3, h0, h5, h6, h7, h32, h33⟩
      have hlt1 : ltF (Int.ofNat k) (Int.ofNat k) = false := by rw [ltF_nat]; simp
      simp only [codeV_exit, codeV_region, codeV_seq, codeV_cond, seqV, wantedV, stepV, clsOf, pureV, pureV0, ev, putT_eq, T.get_set, binV, intBin, kindEq, Option.getD_some, reduceIte, cond_true, Nat.reduceLT, h32, h33, hlt1]
      refine ⟨_, _, _, rfl, rfl, rfl, ?_, g2, g3, by simp [T.get_set, h0], by simp [T.get_set, h5], by simp [T.get_set, h7]⟩
      rw [g1]
      congr 2
      apply rowV_congr
      intro t ht
      rw [if_pos ht])
    0 (Nat.zero_le _) (by omega) ⟨by
      simp only [S.new, T.get_set, if_true]
      congr 2
      rw [repeat_rowV]
      apply rowV_congr
      intro t _
      rw [if_neg (by omega)], fun b hb => by simp only [S.new, T.get_set, if_neg hb], rfl, by simp [T.get_set], by simp [T.get_set], by simp [T.get_set], by simp [T.get_set], by simp [T.get_set], by simp [T.get_set]⟩
  obtain ⟨rfl, g1, g2, g3, h0, h5, h7⟩ := hp
  have ltD : ∀ b o v, s.cellAt b o = some v → s3.cellAt b o = some v := by
    intro b o v h
    have hb : b < s.next := by
      rcases Nat.lt_or_ge b s.next with h' | h'
      · exact h'
      · simp only [S.cellAt, hlt _ h'] at h; cases h
    have := keep2 b o v h
    simp only [S.cellAt, g2 b (by omega)] at this ⊢
    exact this
  have hcA3 := ltD _ _ _ hc0
  have hcB3 := ltD _ _ _ hc1
  have hcC3 := ltD _ _ _ hc2
  have hb6 : Nat.ble n 1099511627776 = true := by rw [Nat.ble_eq]; omega
  have hb7 : Nat.ble (16 * n) 1099511627776 = true := by rw [Nat.ble_eq]; omega
  have E0 : Encd s (s3.new (.cells true .no (repeatV [V.str []] n))) k n size 0 l row := by
    have e3 : s3.next = s.next + 2 := by omega
    have other : ∀ b, b ≠ s.next + 2 → (s3.new (.cells true .no (repeatV [V.str []] n))).h.get b = s3.h.get b := fun b hb => by simp only [S.new, T.get_set]; rw [if_neg (by omega)]
    refine ⟨fun b hb => ?_, ?_, ?_, ?_, by simp only [S.new]; omega, fun b hb => ?_⟩
    · rw [other b (by omega), g2 b (by omega), hold2 b (by omega)]
      simp only [s1, S.new, T.get_set, if_neg (show b ≠ s.next by omega)]
    · rw [other _ (by omega), g2 _ (by omega)]; exact hA2
    · rw [other _ (by omega), ← hn2'']; exact g1
    · simp only [S.new, T.get_set, e3, if_true]
      congr 2
      rw [repeat_rowV]
      apply rowV_congr
      intro t _
      rw [if_neg (by omega)]
    · simp only [S.new] at hb
      rw [other b (by omega), g2 b (by omega), hold2 b (by omega)]
      simp only [s1, S.new, T.get_set, if_neg (show b ≠ s.next by omega)]
      exact hlt b (by omega)
  have hcC4 := E0.cell hlt hc2
  simp only [T.get_set, nth, tt9, Option.getD_some, reduceIte, cond_true, cond_false, Nat.reduceEqDiff, decide_false, decide_true, Bool.and_true, h0, hcB3, hcC4, tt9, hb6, hb7, nble_refl, Nat.zero_add]
  generalize hL2 : loopV _ _ _ _ _ _ _ _ = L2
  obtain ⟨e, tm5, s5, rfl, he, hp⟩ := loopV_for hL2 n
    (fun i tm s' => Encd s s' k n size i l row ∧ tm.get 0 = some (.ptr bc 0) ∧ tm.get 5 = some (.int .i64 (Int.ofNat size)) ∧ tm.get 7 = some (.sl s2.next 0 k k 1 true) ∧ tm.get 9 = some (.sl s3.next 0 n n 1 true) ∧
      tm.get 57 = some (.sl rr 0 n cr 1 er) ∧ tm.get 58 = some (.int .i64 (Int.ofNat n)) ∧ tm.get 59 = some (.int .i64 (Int.ofNat i)))
    (fun e tm s' => e = .exit 2 ∧ Encd s s' k n size n l row ∧ tm.get 9 = some (.sl s3.next 0 n n 1 true))
    (by
      intro i tm s' hi ⟨E, h0, h5, h7, h9, h57, h58, h59⟩
      have hlt1 : ltF (Int.ofNat i) (Int.ofNat n) = true := by rw [ltF_nat]; simpa using hi
      have hw : wrapF .i64 (Int.ofNat i + 1) = Int.ofNat (i + 1) := wrap_nat (a := i + 1) (by omega)
      have hb : Nat.blt i n = true := by rw [Nat.blt_eq]; exact hi
      have hr := E.cell hlt (hrows i hi)
      obtain ⟨sm, hmix, M⟩ := mix_run (sum := sum) (ext := ext) (orc := orc) lf d bc (RB i) 0 (RC i) k size (RE i) s2.next k (row i) (fun j t => allF l (j * size + t)) (fun _ => s.next) (fun j => j * size) (fun j => k * size - j * size) (fun _ => true) s' true
        (fun q hq => E.cell hlt (F q hq)) (fun j hj => ⟨(hrow i j hi hj).1, by rw [Nat.zero_add]; exact E.cell hlt (hrow i j hi hj).2⟩)
        (fun j hj => by rw [hn2'']; exact cellAt_of E.data hj)
        (fun j t hj ht => ⟨allF_byte hlb _, cellAt_of (f := fun t => byteV (allF l t)) E.all (by
          have : (j + 1) * size ≤ k * size := Nat.mul_le_mul_right _ hj
          rw [Nat.succ_mul] at this; omega)⟩) (by omega) (by omega) (by omega) (by omega) hs2 hs3 (fun a s => hx 138 a s) E.lt
      have hcv := conv_str (c := ctx sum ext orc) tt110 tt5 tt9 M.here (mixAt_byte _ _ _)
      obtain ⟨ho, E2⟩ := E.more M
      have e3 : s3.next = s.next + 2 := by omega
      have hput := put_of ho hi (v := .str (encL l k size (row i))) rfl
      rw [← e3] at hput
      have hcv' : convV (ctx sum ext orc) sm 110 9 (.sl s'.next 0 size size 1 true) = some (.str (encL l k size (row i))) := hcv
      have hclo : clsOf (ctx sum ext orc) (Op.convert 110 9 (Operand.tmp 70)) = .pure := by simp only [clsOf, ctx_tt, tt110, tt9]
      simp only [codeV_skip, codeV_region, codeV_seq, codeV_cond, codeV_block, seqV, wantedV, stepV, clsOf, pureV, pureV0, ev, toV, toV0, evs, putT_eq, putT_none, T.get_set, binV, intBin, kindEq, ctx_tt, tt9, tt110, tt100, tt28, Option.getD_some, reduceIte, cond_true, Nat.reduceLT, Nat.reduceEqDiff, natBeq, decide_true, Bool.and_true,
        h0, h5, h7, h9, h57, h58, h59, hlt1, hw, hb, hr, effV, hext, hft3, hb112, List.append_nil, hmix, hcv', Nat.mul_one, Nat.zero_add, V.cells, List.length_cons, List.length_nil, hput, TI.isAgg]
      refine ⟨_, _, _, rfl, .inl ⟨rfl, ?_, by simp [T.get_set, h0], by simp [T.get_set, h5], by simp [T.get_set, h7], by simp [T.get_set, h9], by simp [T.get_set, h57], by simp [T.get_set, h58], by simp [T.get_set]⟩⟩
      rw [e3]; exact E2)
    (by
      intro tm s' ⟨E, h0, h5, h7, h9, h57, h58, h59⟩
      have hlt1 : ltF (Int.ofNat n) (Int.ofNat n) = false := by rw [ltF_nat]; simp
      simp only [codeV_exit, codeV_region, codeV_seq, codeV_cond, seqV, wantedV, stepV, clsOf, pureV, pureV0, ev, putT_eq, T.get_set, binV, intBin, kindEq, Option.getD_some, reduceIte, cond_true, Nat.reduceLT, h58, h59, hlt1]
      exact ⟨_, _, _, rfl, rfl, rfl, E, by simp [T.get_set, h9]⟩)
    0 (Nat.zero_le _) (by omega) ⟨E0, by simp [T.get_set, h0], by simp [T.get_set, h5], by simp [T.get_set, h7], by simp [T.get_set], by simp [T.get_set], by simp [T.get_set], by simp [T.get_set]⟩
  obtain ⟨rfl, E, h9⟩ := hp
  simp only [T.get_set, Option.getD_some, reduceIte, cond_true, Nat.reduceEqDiff, decide_true, resV, packV, h9]
  have e3 : s3.next = s.next + 2 := by omega
  rw [e3]
  exact ⟨_, rfl, E⟩

end Go.Proofs.YtdhljfjmalphiaaDoor.Tab
