/- All operations that leave memory alone. -/
import Derived.Test.YtdhljfjmalphiaaDoorAiPureE
import Derived.Lib.Builder
import Derived.Lib.MakeNoZero
import Derived.Lib.UnsafeStr
namespace Go.Ai
section
variable {P : Program} {c : Ctx} {ng : Nat} {pr : Prt} {w0 : World} {σ : Sg} {s : S} {w : World}

theorem bytesOf_ok [Val] : ∀ {cs : List V} {l : List Nat} {xs : List Value}, bytesOf cs = some l → VRs σ cs xs → xs = (l.map Int.ofNat).map (Value.int .u8) ∧ ∀ n ∈ l, n < 256
  | [], l, xs, h, hx => by simp only [VRs] at hx; subst hx; simp [bytesOf] at h; subst h; simp
  | v :: cs, l, xs, h, hx => by
    simp only [VRs] at hx
    obtain ⟨y, ys, rfl, hy, hys⟩ := hx
    unfold bytesOf at h
    split at h
    · rename_i heq; cases heq
    · rename_i n l' heq
      cases heq
      cases hn : Nat.blt n 256 with
      | false => simp [hn] at h
      | true =>
        simp only [hn, cond_true] at h
        split at h
        case h_2 => cases h
        rename_i r hr
        cases h
        obtain ⟨e1, e2⟩ := bytesOf_ok hr hys
        simp only [VR] at hy
        subst hy; subst e1
        refine ⟨by simp, ?_⟩
        intro m hm
        cases hm with
        | head => simpa [Nat.blt_eq] using hn
        | tail _ hm => exact e2 m hm
    · cases h
theorem nats_fold : ∀ (l : List Nat) (acc : ByteArray), (∀ n ∈ l, n < 256) → nats ((l.map Int.ofNat).foldl (fun r n => r.push (UInt8.ofNat n.toNat)) acc) = nats acc ++ l
  | [], acc, _ => by simp
  | n :: l, acc, h => by
    simp only [List.map_cons, List.foldl_cons]
    rw [nats_fold l _ (fun m hm => h m (by simp [hm]))]
    have : n < 256 := h n (by simp)
    simp [nats, Nat.mod_eq_of_lt this]

theorem liesAt_row {e count off n : Nat} (hc : P.cellsOf e ≠ 0) (h0 : off % P.cellsOf e = 0) (h1 : off / P.cellsOf e + n ≤ count) : liesAt P P.depth e count off e n = true := by
  have hd : P.depth = (2 * (P.types.size + Made.depth) + 1) + 1 := rfl
  rw [hd]
  simp only [liesAt, Bool.or_eq_true]
  left
  rw [hd]
  simp [rowAt, hc, h0, h1, sameLayout]

theorem convV_ok [Val] (T : TOk P c) (R : Rel ng pr w0 σ s w) {src dst : Nat} {x v : V} {u : Value} (h : convV c s src dst x = some v) (hu : VR σ x u) :
    ∃ r, (convert src dst u).run P w = .ok r w ∧ VR σ v r := by
  unfold convV at h
  split at h
  case h_2 => cases h
  rename_i i j hi hj
  obtain ⟨info, d, z, h1, h2, h3, h4, h6, h7, h8, h9⟩ := T.at hi
  obtain ⟨info', d', z', g1, g2, g3, g4, g6, g7, g8, g9⟩ := T.at hj
  split at h
  case h_1 =>
    rename_i k1 k2 k3 n hk hk'
    rw [hk] at h6; have := kOf_int h6; subst this
    rw [hk'] at g6; have := kOf_int g6; subst this
    simp only [VR] at hu; subst hu
    cases h
    exact ⟨.int k2 (k2.wrap n), by simp [convert, run_underlying h2, run_underlying g2, Conv.intToInt], by simp [VR, wrapF_eq]⟩
  case h_2 =>
    rename_i l hk hk'
    rw [hk] at h6; have := kOf_str h6; subst this
    rw [hk'] at g6; have := kOf_str g6; subst this
    simp only [VR] at hu
    obtain ⟨su, rfl, rfl⟩ := hu
    cases h
    exact ⟨.string su, by simp [convert, run_underlying h2, run_underlying g2], by simp [VR]⟩
  case h_3 =>
    rename_i e hk hk'
    rw [hk] at h6; have := kOf_slice h6; subst this
    rw [hk'] at g6; have := kOf_str g6; subst this
    simp only [VR] at hu; subst hu
    cases he : c.tt.get e with
    | none => simp [he] at h
    | some ie =>
      simp only [he] at h
      obtain ⟨info2, d2, z2, k1, k2, k3, k4, k6, k7, k8, k9⟩ := T.at he
      split at h
      case h_2 => cases h
      rename_i hke
      rw [hke] at k6; have := kOf_int k6; subst this
      cases h
      refine ⟨.string .empty, ?_, by simp only [VR]; exact ⟨_, rfl, rfl⟩⟩
      rw [run_convert_bytes_string w src dst e none 0 0 h2 k2 g2]
      simp [Conv.bytesToString]
  case h_4 =>
    rename_i e b o len cap esz ex hk hk'
    rw [hk] at h6; have := kOf_slice h6; subst this
    rw [hk'] at g6; have := kOf_str g6; subst this
    simp only [VR] at hu
    obtain ⟨a, cap', rfl, hlc, hcc, hex, hadr⟩ := hu
    cases he : c.tt.get e with
    | none => simp [he] at h
    | some ie =>
      simp only [he] at h
      obtain ⟨info2, d2, z2, k1, k2, k3, k4, k6, k7, k8, k9⟩ := T.at he
      split at h
      case h_2 => cases h
      rename_i hke
      rw [hke] at k6; have := kOf_int k6; subst this
      rw [run_convert_bytes_string w src dst e (some a) len cap' h2 k2 g2]
      split at h
      · rename_i hl
        have := Nat.eq_of_beq_eq_true hl
        subst this
        cases h
        refine ⟨.string .empty, ?_, by simp only [VR]; exact ⟨_, rfl, rfl⟩⟩
        simp [Conv.bytesToString, loadCells, loadCellsFrom]
      · rename_i hl
        have hne := Nat.ne_of_beq_eq_false hl
        split at h
        case h_2 => cases h
        rename_i cs hcs
        split at h
        case h_2 => cases h
        rename_i l hb
        cases h
        rcases hadr with ⟨z1, _⟩ | ⟨cb, co, ce, q1, rfl, q3⟩
        · exact absurd z1 hne
        obtain ⟨xs, hx, hr, hl⟩ := R.cells hcs q1
        obtain ⟨e1, e2⟩ := bytesOf_ok hb hr
        have := run_bytesToString (P := P) w ⟨cb, co + o, none⟩ len cap' (l.map Int.ofNat) (by rw [hl P, e1])
        exact ⟨_, this, by simp only [VR]; exact ⟨_, rfl, by rw [nats_fold _ _ e2]; rfl⟩⟩
  case h_5 =>
    rename_i e b o hk hk'
    rw [hk] at h6; have := kOf_ptr h6; subst this
    rw [hk'] at g6; have := kOf_usp g6; subst this
    cases he : c.tt.get e with
    | none => simp [he] at h
    | some ie =>
      simp only [he] at h
      obtain ⟨info2, d2, z2, k1, k2, k3, k4, k6, k7, k8, k9⟩ := T.at he
      cases hc : (!Nat.beq ie.size 0 && s.here b (o + 1)) with
      | false => simp [hc] at h
      | true =>
        simp only [hc, cond_true, Option.some.injEq] at h
        subst h
        simp only [Bool.and_eq_true, Bool.not_eq_true'] at hc
        have hu0 := hu
        simp only [VR] at hu
        obtain ⟨cb, co, ce, hσ, rfl⟩ := hu
        have hsz := Nat.ne_of_beq_eq_false hc.1
        have hh := here_ok R hc.2 hσ
        have hobj : ∃ cc el fr, w.heap[cb]? = some (.cells cc el fr) ∧ ce ≤ cc.size := by
          have := hc.2
          unfold S.here at this
          split at this
          · rename_i rw sb cs hb
            obtain ⟨cb', co', ce', cc, el, fr, q1, q2, q3, q4, _⟩ := R.obj b _ hb
            rw [hσ] at q1; cases q1
            exact ⟨cc, el, fr, q2, q4⟩
          · cases this
        obtain ⟨cc, el, fr, q2, q4⟩ := hobj
        exact ⟨_, Lib.run_to_unsafe w (e := el) (cells := cc.size) _ h2 g2 k1 (by rw [k7]; exact hsz) (by simp [World.shape?, q2]) (by simp only []; omega), hu0⟩
  case h_6 =>
    rename_i e b o hk hk'
    rw [hk] at h6; have := kOf_usp h6; subst this
    rw [hk'] at g6; have := kOf_ptr g6; subst this
    split at h
    case h_2 => cases h
    rename_i iu t cs he hb
    obtain ⟨info2, d2, z2, k1, k2, k3, k4, k6, k7, k8, k9⟩ := T.at he
    cases hc : (!Nat.beq iu.size 0 && Nat.beq t e && Nat.beq o 0 && Nat.beq cs.length iu.size) with
    | false => simp [hc] at h
    | true =>
      simp only [hc, cond_true, Option.some.injEq] at h
      subst h
      simp only [Bool.and_eq_true, Bool.not_eq_true', Nat.beq_eq] at hc
      obtain ⟨⟨⟨c1, rfl⟩, rfl⟩, c4⟩ := hc
      have hu0 := hu
      simp only [VR] at hu
      obtain ⟨cb, co, ce, hσ, rfl⟩ := hu
      have hsz := Nat.ne_of_beq_eq_false c1
      obtain ⟨cb', co', ce', cc, el, fr, q1, q2, q3, q4, q5, q6⟩ := R.obj b _ hb
      rw [hσ] at q1; cases q1
      obtain ⟨rfl, z0⟩ := (q6 rfl).2.2 _ _ rfl
      obtain ⟨rfl, z3⟩ := z0 rfl
      have hcell : P.cellsOf el = iu.size := by simp [Program.cellsOf, k1, k7]
      refine ⟨_, Lib.run_from_unsafe w (e := el) (cells := cc.size) _ h2 g2 k1 (by simp [World.shape?, q2]) ?_, hu0⟩
      rw [z3, hcell, c4]
      refine liesAt_row (by omega) (by simp) ?_
      rw [Nat.div_self (by omega)]
      simp
  case h_7 => cases h

theorem keyEq_ok [Val] {k k' : V} {x x' : Value} {r : Bool} {d : TypeDesc} (h : keyEq k k' = some r) (hk : VR σ k x) (hk' : VR σ k' x') (hd : (∃ kk, d = .int kk) ∨ d = .string)
    (hkd : (∀ kk, d = .int kk → ∃ a b, k = .int a b) ∧ (d = .string → ∃ a, k = .str a)) : Instr.sameNow d x x' = some r := by
  unfold keyEq at h
  split at h
  · rename_i a b a' b'
    simp only [VR] at hk hk'; subst hk; subst hk'
    cases hq : kindEq a a' with
    | false => simp [hq] at h
    | true =>
      have := kindEq_eq.1 hq; subst this
      simp only [hq, cond_true, Option.some.injEq] at h; subst h
      rcases hd with ⟨kk, rfl⟩ | rfl
      · simp [Instr.sameNow, eqF_eq]
      · obtain ⟨_, q⟩ := hkd.2 rfl; cases q
  · simp only [VR] at hk hk'
    obtain ⟨su, rfl, rfl⟩ := hk
    obtain ⟨sv, rfl, rfl⟩ := hk'
    cases h
    rcases hd with ⟨kk, rfl⟩ | rfl
    · obtain ⟨_, _, q⟩ := hkd.1 _ rfl; cases q
    · simp only [Instr.sameNow]
      congr 1
      rw [← nats_beq, beq_toListBytes, ByteArray.toList_eq, ByteArray.toList_eq]
  · cases h

/-- What a search for a key tells. -/
theorem find_ok [Val] {k : V} {x : Value} {d : TypeDesc} (hk : VR σ k x) (hd : (∃ kk, d = .int kk) ∨ d = .string) (hkd : (∀ kk, d = .int kk → ∃ a b, k = .int a b) ∧ (d = .string → ∃ a, k = .str a)) :
    ∀ {es : List (V × V)} {l : List MapEntry} {i : Nat} {r : Option (Nat × V)}, EntR σ es l → findV k es i = some r →
    ∃ r', Instr.findNow d x l i = some r' ∧ (match r, r' with
      | none, none => True
      | some (j, v), some (j', y) => j = j' ∧ VR σ v y ∧ i ≤ j ∧ (∃ e, l[j - i]? = some e ∧ VR σ k e.key) ∧ j - i < es.length
      | _, _ => False)
  | [], l, i, r, he, h => by
    simp only [EntR] at he; subst he
    simp only [findV, Option.some.injEq] at h; subst h
    exact ⟨none, rfl, trivial⟩
  | (k', v) :: es, l, i, r, he, h => by
    simp only [EntR] at he
    obtain ⟨e, l', rfl, hek, hev, he⟩ := he
    simp only [findV] at h
    cases hq : keyEq k k' with
    | none => simp [hq] at h
    | some b =>
      have hs := keyEq_ok hq hk hek hd hkd
      cases b with
      | true =>
        simp only [hq, Option.some.injEq] at h; subst h
        refine ⟨some (i, e.val), by simp [Instr.findNow, hs], rfl, hev, Nat.le_refl _, ⟨e, by simp, ?_⟩, by simp⟩
        have : k = k' := by
          unfold keyEq at hq
          split at hq
          · rename_i a b a' b'
            cases hz : kindEq a a' with
            | false => simp [hz] at hq
            | true =>
              have := kindEq_eq.1 hz; subst this
              simp only [hz, cond_true, Option.some.injEq, eqF_eq, beq_iff_eq] at hq
              rw [hq]
          · simp only [Option.some.injEq, strEq_eq, decide_eq_true_eq] at hq
            rw [hq]
          · cases hq
        rw [this]; exact hek
      | false =>
        simp only [hq] at h
        obtain ⟨r', h1, h2⟩ := find_ok hk hd hkd he h
        refine ⟨r', by simp [Instr.findNow, hs, h1], ?_⟩
        cases r with
        | none => cases r' with
          | none => trivial
          | some _ => exact h2.elim
        | some p => cases r' with
          | none => exact h2.elim
          | some p' =>
            obtain ⟨q1, q2, q3, ⟨e', q4, q5⟩, q6⟩ := h2
            refine ⟨q1, q2, by omega, ⟨e', ?_, q5⟩, by simp; omega⟩
            rw [show p.1 - i = (p.1 - (i + 1)) + 1 by omega]; simpa using q4

theorem keyOk_ok [Val] (T : TOk P c) {kt : Nat} {k : V} (h : keyOk c kt k = true) :
    ∃ d, P.underlying kt = some d ∧ ((∃ kk, d = .int kk) ∨ d = .string) ∧ ((∀ kk, d = .int kk → ∃ a b, k = .int a b) ∧ (d = .string → ∃ a, k = .str a)) := by
  unfold keyOk at h
  split at h
  case h_2 => cases h
  rename_i i hi
  obtain ⟨info, d, z, h1, h2, h3, h4, h6, h7, h8, h9⟩ := T.at hi
  refine ⟨d, h2, ?_⟩
  split at h
  · rename_i kk a b hk; rw [hk] at h6; have := kOf_int h6; subst this
    exact ⟨.inl ⟨_, rfl⟩, fun _ _ => ⟨_, _, rfl⟩, fun h => by cases h⟩
  · rename_i a hk; rw [hk] at h6; have := kOf_str h6; subst this
    exact ⟨.inr rfl, fun _ h => (by cases h), fun _ => ⟨_, rfl⟩⟩
  · cases h
theorem run_checkKey {kt : Nat} {d : TypeDesc} {x : Value} {b : Bool} (h : P.underlying kt = some d) (hd : (∃ kk, d = .int kk) ∨ d = .string) : (Instr.checkKey b 10000 kt x).run P w = .ok () w := by
  have gen : ∀ D, (Instr.checkKey b (D + 1) kt x).run P w = .ok () w := by
    intro D
    rcases hd with ⟨kk, rfl⟩ | rfl <;> simp only [Instr.checkKey, Sem.run_bind, run_underlying h, Result.andThen_ok, Sem.run_pure]
  exact gen 9999
theorem run_findKey {kt : Nat} {d : TypeDesc} {x : Value} {l : List MapEntry} {r : Option (Nat × Value)} (h : P.underlying kt = some d) (hf : Instr.findNow d x l 0 = some r) :
    (Instr.findKey kt x l).run P w = .ok r w := by
  simp [Instr.findKey, run_underlying h, hf]

theorem lookupV_ok [Val] (T : TOk P c) (R : Rel ng pr w0 σ s w) {t : Nat} {m k v : V} {ok : Bool} {um uk : Value} (h : lookupV c s t m k ok = some v) (hm : VR σ m um) (hk : VR σ k uk) :
    ∃ r, (Instr.lookup t um uk ok).run P w = .ok r w ∧ VR σ v r := by
  unfold lookupV at h
  split at h
  case h_2 => cases h
  rename_i i hi
  obtain ⟨info, d, z, h1, h2, h3, h4, h6, h7, h8, h9⟩ := T.at hi
  split at h
  case h_2 => cases h
  rename_i kt et hk'
  rw [hk'] at h6; have := kOf_map h6; subst this
  split at h
  case h_2 => cases h
  rename_i ie hko he
  obtain ⟨dk, q1, q2, q3⟩ := keyOk_ok T hko
  obtain ⟨ze, hze, hzr⟩ := run_zero (σ := σ) (w := w) T he
  have main : ∀ (es : List (V × V)) (ces : Array MapEntry), EntR σ es ces.toList → (match findV k es 0 with
        | some (some (_, v)) => some (cond ok (.tup [v, .bool true]) v)
        | some none => some (cond ok (.tup [ie.zeroV, .bool false]) ie.zeroV)
        | none => none) = some v →
      (∃ j y, (Instr.findKey kt uk ces.toList).run P w = .ok (some (j, y)) w ∧ VR σ v (if ok then .tuple #[y, .bool true] else y)) ∨
      ((Instr.findKey kt uk ces.toList).run P w = .ok none w ∧ VR σ v (if ok then .tuple #[ze, .bool false] else ze)) := by
    intro es ces he h
    split at h
    · rename_i j v' hf
      obtain ⟨r', f1, f2⟩ := find_ok hk q2 q3 he hf
      cases r' with
      | none => exact f2.elim
      | some p =>
        obtain ⟨j', y⟩ := p
        obtain ⟨_, g2, _⟩ := f2
        cases h
        refine .inl ⟨j', y, run_findKey q1 f1, ?_⟩
        cases ok with
        | true =>
          simp only [cond_true, if_true, VR]; exact ⟨_, rfl, by simp only [VRs, VR]; exact ⟨_, _, rfl, g2, _, _, rfl, rfl, rfl⟩⟩
        | false => simpa using g2
    · rename_i hf
      obtain ⟨r', f1, f2⟩ := find_ok hk q2 q3 he hf
      cases r' with
      | some p => exact f2.elim
      | none =>
        cases h
        refine .inr ⟨run_findKey q1 f1, ?_⟩
        cases ok with
        | true =>
          simp only [cond_true, if_true, VR]; exact ⟨_, rfl, by simp only [VRs, VR]; exact ⟨_, _, rfl, hzr, _, _, rfl, rfl, rfl⟩⟩
        | false => simpa using hzr
    · cases h
  unfold Instr.lookup
  simp only [Sem.run_bind, run_underlying h2, Result.andThen_ok]
  have hck : ∀ e, (Instr.checkKey e 10000 kt uk).run P w = .ok () w := fun e => run_checkKey q1 q2
  cases m <;> simp only [] at h <;> try (cases h; done)
  case nilmp =>
    simp only [VR] at hm; subst hm
    rcases main [] #[] (by simp [EntR]) h with ⟨j, y, f1, hv⟩ | ⟨f1, hv⟩
    · exact ⟨_, by simp only [Sem.run_bind, Sem.run_pure, Result.andThen_ok, hck, f1]; try rfl, hv⟩
    · exact ⟨_, by simp only [Sem.run_pure, Result.andThen_ok, hck, f1, Sem.run_bind, hze], hv⟩
  case mp b =>
    simp only [VR] at hm
    obtain ⟨cb, co, ce, hσ, rfl⟩ := hm
    cases hb : s.h.get b with
    | none => simp [hb] at h
    | some o =>
      cases o with
      | cells _ _ _ => simp [hb] at h
      | map es =>
        simp only [hb] at h
        obtain ⟨cb', ces, clock, g1, g2, g3⟩ := R.obj b _ hb
        rw [hσ] at g1; cases g1
        have hget : (getObj cb).run P w = .ok (.map ces clock) w := by simp [getObj, Sem.run, g2]
        rcases main es ces g3 h with ⟨j, y, f1, hv⟩ | ⟨f1, hv⟩
        · exact ⟨_, by simp only [Sem.run_bind, hget, Sem.run_pure, Result.andThen_ok, hck, f1], hv⟩
        · exact ⟨_, by simp only [Sem.run_bind, hget, Sem.run_pure, Result.andThen_ok, hck, f1, hze], hv⟩

theorem lenV_ok [Val] (T : TOk P c) (R : Rel ng pr w0 σ s w) {t ty : Nat} {x v : V} {u : Value} {ts : Array Nat} {us : Array Value} (h : lenV c s t x = some v) (hu : VR σ x u) (ht : ts[0]? = some t) (hus : us[0]? = some u) :
    ∃ r, (Builtin.len_ ts ty us).run P w = .ok r w ∧ VR σ v r := by
  unfold lenV at h
  split at h
  · cases h
  rename_i i hi
  obtain ⟨info, d, z, h1, h2, h3, h4, h6, h7, h8, h9⟩ := T.at hi
  unfold Builtin.len_
  simp only [ht, hus, Sem.run_bind, run_underlying h2, Result.andThen_ok]
  split at h
  · rename_i l hk
    rw [hk] at h6; have := kOf_str h6; subst this
    simp only [VR] at hu
    obtain ⟨su, rfl, rfl⟩ := hu
    cases h
    exact ⟨goInt su.size, rfl, by simp [VR, goInt]⟩
  · rename_i n e hk
    rw [hk] at h6; have := kOf_arr h6; subst this
    cases h
    refine ⟨goInt n, ?_, by simp [VR, goInt]⟩
    cases u <;> rfl
  · rename_i a hk
    rw [hk] at h6; have := kOf_ptr h6; subst this
    cases ha : c.tt.get a with
    | none => simp [ha] at h
    | some ia =>
      simp only [ha] at h
      obtain ⟨info', d', z', g1, g2, g3, g4, g6, g7, g8, g9⟩ := T.at ha
      split at h
      case h_2 => cases h
      rename_i n e hk'
      rw [hk'] at g6; have := kOf_arr g6; subst this
      cases h
      refine ⟨goInt n, ?_, by simp [VR, goInt]⟩
      cases u <;> simp [run_underlying g2]
  · rename_i hk
    rw [hk] at h6; have := kOf_slice h6; subst this
    simp only [VR] at hu
    obtain ⟨a, cap', rfl, _⟩ := hu
    cases h
    exact ⟨_, rfl, by simp [VR, goInt]⟩
  · rename_i hk
    rw [hk] at h6; have := kOf_slice h6; subst this
    simp only [VR] at hu; subst hu
    cases h
    exact ⟨_, rfl, by simp [VR, goInt]⟩
  · rename_i hk
    rw [hk] at h6; have := kOf_map h6; subst this
    simp only [VR] at hu; subst hu
    cases h
    exact ⟨_, rfl, by simp [VR, goInt]⟩
  · rename_i b hk
    rw [hk] at h6; have := kOf_map h6; subst this
    simp only [VR] at hu
    obtain ⟨cb, co, ce, hσ, rfl⟩ := hu
    cases hb : s.h.get b with
    | none => simp [hb] at h
    | some o =>
      cases o with
      | cells _ _ _ => simp [hb] at h
      | map es =>
        simp only [hb, Option.some.injEq] at h; subst h
        obtain ⟨cb', ces, clock, g1, g2, g3⟩ := R.obj b _ hb
        rw [hσ] at g1; cases g1
        have hget : (getObj cb).run P w = .ok (.map ces clock) w := by simp [getObj, Sem.run, g2]
        refine ⟨goInt ces.size, by simp [hget], ?_⟩
        have : es.length = ces.size := by
          clear hb h2 h6 hk g2 hget
          have : ∀ (es : List (V × V)) (l : List MapEntry), EntR σ es l → es.length = l.length := by
            intro es
            induction es with
            | nil => intro l h; simp only [EntR] at h; simp [h]
            | cons p es ih => intro l h; obtain ⟨k, v⟩ := p; simp only [EntR] at h; obtain ⟨e, l', rfl, _, _, h⟩ := h; simp [ih _ h]
          rw [this _ _ g3]; simp
        simp [VR, goInt, this]
  · cases h

theorem minmax_ok [Val] {mx : Bool} : ∀ {l : List V} {v x : V} {xs : List Value} {u : Value}, minmax mx x l = some v → VR σ x u → VRs σ l xs →
    ∃ r, (xs.foldlM (if mx then Builtin.max2 else Builtin.min2) u).run P w = .ok r w ∧ VR σ v r
  | [], v, x, xs, u, h, hx, hl => by
    simp only [VRs] at hl; subst hl
    simp only [minmax, Option.some.injEq] at h; subst h
    exact ⟨u, by simp, hx⟩
  | y :: l, v, x, xs, u, h, hx, hl => by
    simp only [VRs] at hl
    obtain ⟨u', us, rfl, hy, hl⟩ := hl
    unfold minmax at h
    split at h
    · rename_i heq; cases heq
    · rename_i k a k' b l' heq
      cases heq
      simp only [VR] at hx hy; subst hx; subst hy
      cases hk : kindEq k k' with
      | false => simp [hk] at h
      | true =>
        have := kindEq_eq.1 hk; subst this
        simp only [hk, cond_true] at h
        obtain ⟨r, hr, hv⟩ := minmax_ok (xs := us) (u := .int k (bif (bif mx then ltF a b else ltF b a) then b else a)) h (by simp [VR]) hl
        refine ⟨r, ?_, hv⟩
        rw [List.foldlM_cons, Sem.run_bind]
        have : ((if mx then Builtin.max2 else Builtin.min2) (.int k a) (.int k b)).run P w = .ok (.int k (bif (bif mx then ltF a b else ltF b a) then b else a)) w := by
          cases mx
          · simp only [Bool.false_eq_true, if_false, Builtin.min2, Sem.run_pure, cond_false, ltF_eq]
            congr 2
            by_cases e : b < a <;> simp [e]
          · simp only [if_true, Builtin.max2, Sem.run_pure, cond_true, ltF_eq]
            congr 2
            by_cases e : a < b <;> simp [e]
        rw [this]
        exact hr
    · cases h
end
end Go.Ai
