/- TaskFails: the summaries and the oracle are right. -/
import Derived.Test.YtdhljfjmalphiaaDoorFails
import Derived.Test.YtdhljfjmalphiaaDoorOpen
namespace Go.Ai
def bareV : Value → Option V
  | .int k n => some (.int k n)
  | .string s => some (.str (nats s))
  | .bool b => some (.bool b)
  | _ => none
theorem bareV_ok [Val] {σ : Sg} {x : Value} {v : V} (h : bareV x = some v) : VR σ v x := by
  unfold bareV at h
  split at h
  · cases h; simp only [VR]
  · cases h; simp only [VR]; exact ⟨_, rfl, rfl⟩
  · cases h; simp only [VR]
  · cases h
/-- An oracle's answer, by the evaluator on what the names stand for. -/
theorem orc_by [Val] {P : Program} {c : Ctx} (T : TOk P c) {o : Oper} {ρc : Operand → Value} {v' : V} {w : World} (h : pureV0 c o.op (fun x => bareV (ρc x)) (s0 c.ng) = some v') :
    ∃ u, (execOp ρc o).run P w = .ok (.value u) w ∧ VR (sg0 c.ng) v' u :=
  pure0_ok T (rel0 c.ng w) (fun _ _ hx => bareV_ok hx) h
theorem evs_map {ρc : Operand → Value} : ∀ {l : List Operand} {xs : List Value} {vs : List V}, l.map ρc = xs → xs.map bareV = vs.map some → evs (fun x => bareV (ρc x)) l = some vs
  | [], _, vs, h1, h2 => by
    subst h1
    cases vs with
    | nil => rfl
    | cons => simp at h2
  | x :: l, _, vs, h1, h2 => by
    subst h1
    cases vs with
    | nil => simp at h2
    | cons v vs =>
      simp only [List.map_cons, List.cons.injEq] at h2
      simp only [evs, h2.1, evs_map (l := l) rfl h2.2]
end Go.Ai
namespace Go.Proofs.YtdhljfjmalphiaaDoor.Tab
open Go.Ai
set_option maxRecDepth 100000

theorem cauN_byte (k i j : Nat) : cauN k i j < 256 := by
  unfold cauN
  split
  · split <;> omega
  · exact tab_byte _
/-- What the look at the code finds. -/
theorem codeB_ok {s : S} {bc k n : Nat} (h : codeB s bc k n = true) : ∃ (rr cr : Nat) (er : Bool) (RB RC : Nat → Nat) (RE : Nat → Bool), s.cellAt bc 0 = some (.int .i64 (Int.ofNat k)) ∧ s.cellAt bc 1 = some (.int .i64 (Int.ofNat n)) ∧ FieldAt s bc 2 ∧
    s.cellAt bc 768 = some (.sl rr 0 n cr 1 er) ∧ (∀ i, i < n → s.cellAt rr i = some (.sl (RB i) 0 k (RC i) 1 (RE i))) ∧
    ∀ i j, i < n → j < k → cauN k i j < 256 ∧ s.cellAt (RB i) j = some (byteV (cauN k i j)) := by
  unfold codeB at h
  split at h
  case h_2 => cases h
  rename_i rw tg cs hb
  have cell : ∀ o, s.cellAt bc o = nth cs o := fun o => by simp only [S.cellAt, hb]
  simp only [Bool.and_eq_true] at h
  obtain ⟨⟨⟨h0, h1⟩, h2⟩, h3⟩ := h
  split at h2
  case h_2 => cases h2
  rename_i l hl
  split at h3
  case h_2 => cases h3
  rename_i rr o len cr esz er hrr
  simp only [Bool.and_eq_true, Nat.beq_eq] at h3
  obtain ⟨⟨⟨rfl, rfl⟩, rfl⟩, h3⟩ := h3
  have rows : ∀ i, i < len → ∃ b c e, s.cellAt rr i = some (.sl b 0 k c 1 e) ∧ ∀ j, j < k → s.cellAt b j = some (byteV (cauN k i j)) := by
    intro i hi
    have := allN_ok h3 i (by simpa using hi)
    unfold rowOk at this
    split at this
    case h_2 => cases this
    rename_i b o len' c esz e hc
    simp only [Bool.and_eq_true, Nat.beq_eq] at this
    obtain ⟨⟨⟨rfl, rfl⟩, rfl⟩, q⟩ := this
    exact ⟨b, c, e, hc, fun j hj => isByte_ok (allN_ok q j (by simpa using hj))⟩
  let RB : Nat → Nat := fun i => match s.cellAt rr i with | some (.sl b ..) => b | _ => 0
  let RC : Nat → Nat := fun i => match s.cellAt rr i with | some (.sl _ _ _ c ..) => c | _ => 0
  let RE : Nat → Bool := fun i => match s.cellAt rr i with | some (.sl _ _ _ _ _ e) => e | _ => false
  refine ⟨rr, cr, er, RB, RC, RE, by rw [cell]; exact isInt_ok h0, by rw [cell]; exact isInt_ok h1, fun i hi => ?_, by rw [cell]; exact hrr, fun i hi => ?_, fun i j hi hj => ⟨cauN_byte _ _ _, ?_⟩⟩
  · rw [cell]
    have hle := eqBytes_ok h2
    have := sub_get hl i hi
    rw [nth_eq, ← this, hle]
    have hlen : makeL.length = 766 := by kernel_rfl
    simp only [List.getElem?_map]
    unfold tabN
    rw [nth_eq, List.getElem?_eq_getElem (by omega)]
    rfl
  · obtain ⟨b, c, e, h1, _⟩ := rows i hi
    simp only [RB, RC, RE, h1]
  · obtain ⟨b, c, e, h1, h2⟩ := rows i hi
    simp only [RB, h1]
    exact h2 j hj

theorem nats_byte (s : ByteArray) : ∀ b ∈ nats s, b < 256 := by
  intro b hb
  unfold nats at hb
  simp only [List.mem_map] at hb
  obtain ⟨x, _, rfl⟩ := hb
  exact x.toNat_lt

theorem nbeq {a b : Nat} (h : Nat.beq a b = true) : a = b := Nat.eq_of_beq_eq_true h
section
variable [Val]
/-- What the names stand for. -/
structure KnowF (kb big : Bool) (a b n r : Nat) : Prop where
  key : keyB (nats (Val.str 0)) = kb
  hash : kb = true → Val.num 3 = hashL 2166136261 (nats (Val.str 0)) ∧ Val.num 4 = wrapF .i64 (Val.num 3) ∧ (Val.num 4).tmod (Int.ofNat (a + b)) = Int.ofNat r
  wa : withinN (Val.num 0) (Int.ofNat 1) (Int.ofNat 4) = Int.ofNat a
  wb : withinN (Val.num 1) (Int.ofNat 0) (Int.ofNat 3) = Int.ofNat b
  wn : withinN (Val.num 2) (Int.ofNat 0) (Int.ofNat (a + b)) = Int.ofNat n
  len : Val.num 10 = Int.ofNat (nats (Val.str 1)).length
  isBig : decide (300 < (nats (Val.str 1)).length) = big
  parts : big = false → ∀ i, i < a + b → nats (Val.str (20 + i)) = encL (nats (Val.str 1)) a (((nats (Val.str 1)).length + a - 1) / a) (cauN a i)
  recd : big = false → nats (Val.str 30) = recL (nats (Val.str 1)).length
  pos : 0 < a ∧ a ≤ 4 ∧ b ≤ 3
theorem enc_ok {kb big : Bool} {a b n r : Nat} (K : KnowF kb big a b n r) (hb : big = false) {bc : Nat} {s : S} (hc : codeB s bc a (a + b) = true) (pr : Prt) (w0 : World) (σ : Sg) (w : World) (cargs : Array Value)
    (R : Rel (ctx none3 none3 none2).ng pr w0 σ s w) (hargs : VRs σ [.ptr bc 0, .sstr 1] cargs.toList) :
    Calls Tryd.prog 81 cargs w fun e w' => ∃ cv σ', e = .returned cv ∧ VR σ' (.sl (s.next + 2) 0 (a + b) (a + b) 1 true) cv ∧
      Rel (ctx none3 none3 none2).ng pr w0 σ' { h := s.h.set (s.next + 2) (.cells true .no (rowV (a + b) fun i => .sstr (20 + i))), next := s.next + 3 + (a + b) } w' ∧ Ext σ σ' := by
  obtain ⟨rr, cr, er, RB, RC, RE, c0, c1, F, c2, hrows, hrow⟩ := codeB_ok hc
  obtain ⟨p1, p2, p3⟩ := K.pos
  have hlen : (nats (Val.str 1)).length ≤ 300 := by
    have := K.isBig
    rw [hb] at this
    simpa using this
  have hlt : ∀ b, s.next ≤ b → s.h.get b = none := by
    intro b hb
    cases hg : s.h.get b with
    | none => rfl
    | some o => have := R.lt hg; omega
  obtain ⟨s', hrun, E⟩ := encode_run (sum := none3) (ext := none3) (orc := none2) 1000 0 bc a (a + b) rr cr er RB RC RE (cauN a) (nats (Val.str 1)) s p1 (by omega) (by omega) (by omega) (by omega) (by omega) (by omega) (nats_byte _)
    c0 c1 F c2 hrows hrow (fun _ _ => rfl) (fun _ _ => rfl) (fun _ _ => rfl) (fun _ _ => rfl) (fun _ _ _ => rfl) hlt
  have hargs' : VRs σ [.ptr bc 0, .str (nats (Val.str 1))] cargs.toList := by
    simp only [VRs, VR] at hargs ⊢
    obtain ⟨y, ys, h1, h2, z, zs, h3, h4, h5⟩ := hargs
    exact ⟨y, ys, h1, h2, z, zs, h3, ⟨_, h4, rfl⟩, h5⟩
  refine (call0 3 81 _ s _ s' hrun pr w0 σ w cargs R hargs').mono fun e w' ⟨cv, σ', he, hv, R', hx⟩ => ⟨cv, σ', he, hv, R'.weaken (by rw [E.next]) fun q o2 hq => ?_, hx⟩
  simp only [T.get_set] at hq
  by_cases e : q = s.next + 2
  · rw [if_pos e] at hq
    cases hq
    subst e
    refine ⟨_, E.out, rfl, OR.cells_weaken (by rw [rowV_len, rowV_len]) fun i x2 hi => ?_⟩
    have hin : i < a + b := by
      rcases Nat.lt_or_ge i (a + b) with h | h
      · exact h
      · rw [List.getElem?_eq_none (by rw [rowV_len]; exact h)] at hi; cases hi
    rw [← nth_eq, nth_rowV hin] at hi
    cases hi
    refine ⟨_, by rw [← nth_eq, nth_rowV hin, if_pos hin], fun v hv => ?_⟩
    simp only [VR] at hv ⊢
    obtain ⟨t, rfl, ht⟩ := hv
    rw [nats_inj (ht.trans (K.parts hb i hin).symm)]
  · rw [if_neg e] at hq
    exact ⟨o2, by rw [E.old q (R.lt hq)]; exact hq, rfl, fun h => h⟩

theorem sumF_ok {kb big : Bool} {a b n r : Nat} (K : KnowF kb big a b n r) : CallOk Tryd.prog (ctx none3 none3 none2).ng (sumF kb big a b n) := by
  intro f args s v s' h pr w0 σ w cargs R hargs
  unfold sumF at h
  cases hm : sumMake f args s with
  | some x =>
    simp only [hm, Option.some.injEq] at h
    subst h
    exact sumMake_ok f args s v s' hm pr w0 σ w cargs R hargs
  | none =>
    simp only [hm] at h
    split at h
    · cases hf : Nat.beq f 8 with
      | false => simp [hf] at h
      | true =>
        obtain rfl := nbeq hf
        simp only [hf, cond_true, Option.some.injEq, Prod.mk.injEq] at h
        obtain ⟨rfl, rfl⟩ := h
        obtain ⟨s1, h1⟩ := gives_ok task_runs
        exact herm (callM 60) h1 rfl rfl pr w0 σ _ w cargs R hargs
    · rename_i i
      cases hi : Nat.beq i 0 with
      | false => simp [hi] at h
      | true =>
        obtain rfl := nbeq hi
        simp only [hi, cond_true] at h
        have hargs' : VRs σ [.str (nats (Val.str 0))] cargs.toList := by
          simp only [VRs, VR] at hargs ⊢
          obtain ⟨y, ys, h1, rfl, h2⟩ := hargs
          exact ⟨_, ys, h1, ⟨_, rfl, rfl⟩, h2⟩
        cases hf : Nat.beq f 7 with
        | true =>
          obtain rfl := nbeq hf
          simp only [hf, cond_true, Option.some.injEq, Prod.mk.injEq] at h
          obtain ⟨rfl, rfl⟩ := h
          have h1 := key_run (sum := none3) (ext := none3) (orc := none2) (nats (Val.str 0)) 0 (s0 (ctx none3 none3 none2).ng) rfl
          rw [K.key] at h1
          exact herm (call0 1) h1 rfl rfl pr w0 σ _ w cargs R hargs'
        | false =>
          simp only [hf, cond_false] at h
          cases hf2 : (Nat.beq f 48 && kb) with
          | false => simp [hf2] at h
          | true =>
            simp only [hf2, cond_true, Option.some.injEq, Prod.mk.injEq] at h
            obtain ⟨rfl, rfl⟩ := h
            simp only [Bool.and_eq_true] at hf2
            obtain ⟨hf2, rfl⟩ := hf2
            obtain rfl := nbeq hf2
            have hk := K.key
            simp only [keyB, Bool.and_eq_true, decide_eq_true_eq] at hk
            have h1 := hash_run (sum := none3) (ext := none3) (orc := none2) (nats (Val.str 0)) (by omega) 0 (s0 (ctx none3 none3 none2).ng) rfl
            refine (herm (call0 1) h1 rfl rfl pr w0 σ _ w cargs R hargs').mono fun e w' ⟨cv, σ', he, hv, hr⟩ => ⟨cv, σ', he, ?_, hr⟩
            simp only [VR] at hv ⊢
            rw [hv, (K.hash rfl).1]
    · rename_i i lo hi
      cases hf : Nat.beq f 12 with
      | false => simp [hf] at h
      | true =>
        obtain rfl := nbeq hf
        simp only [hf, cond_true] at h
        have hargs' : VRs σ [.int .i64 (Val.num i), .int .i64 (Int.ofNat lo), .int .i64 (Int.ofNat hi)] cargs.toList := by
          simp only [VRs, VR] at hargs ⊢
          exact hargs
        obtain ⟨p1, p2, p3⟩ := K.pos
        have fin : ∀ m : Nat, lo ≤ hi → hi < 1000000 → withinN (Val.num i) (Int.ofNat lo) (Int.ofNat hi) = Int.ofNat m → v = .int .i64 (.ofNat m) → s' = s →
            Calls Tryd.prog 12 cargs w fun e w' => ∃ cv σ', e = .returned cv ∧ VR σ' v cv ∧ Rel (ctx none3 none3 none2).ng pr w0 σ' s' w' ∧ Ext σ σ' := by
          intro m g1 g2 g3 g4 g5
          subst g4; subst g5
          have h1 := within_run (sum := none3) (ext := none3) (orc := none2) 1000 0 (Val.num i) hi lo g1 g2 (s0 (ctx none3 none3 none2).ng) (fun _ _ => rfl)
          have g3' : withinN (Val.num i) ↑lo ↑hi = Int.ofNat m := g3
          rw [g3'] at h1
          exact herm (call0 1) h1 rfl rfl pr w0 σ _ w cargs R hargs'
        split at h
        · cases hc : (Nat.beq lo 1 && Nat.beq hi 4) with
          | false => simp [hc] at h
          | true =>
            simp only [hc, cond_true, Option.some.injEq, Prod.mk.injEq] at h
            simp only [Bool.and_eq_true] at hc
            obtain rfl := nbeq hc.1; obtain rfl := nbeq hc.2
            exact fin a (by omega) (by omega) K.wa h.1.symm h.2.symm
        · cases hc : (Nat.beq lo 0 && Nat.beq hi 3) with
          | false => simp [hc] at h
          | true =>
            simp only [hc, cond_true, Option.some.injEq, Prod.mk.injEq] at h
            simp only [Bool.and_eq_true] at hc
            obtain rfl := nbeq hc.1; obtain rfl := nbeq hc.2
            exact fin b (by omega) (by omega) K.wb h.1.symm h.2.symm
        · cases hc : (Nat.beq lo 0 && Nat.beq hi (a + b)) with
          | false => simp [hc] at h
          | true =>
            simp only [hc, cond_true, Option.some.injEq, Prod.mk.injEq] at h
            simp only [Bool.and_eq_true] at hc
            obtain rfl := nbeq hc.1; obtain rfl := nbeq hc.2
            exact fin n (by omega) (by omega) K.wn h.1.symm h.2.symm
        · cases h
    · rename_i bc
      cases hf : (Nat.beq f 81 && !big && codeB s bc a (a + b)) with
      | false => simp [hf] at h
      | true =>
        simp only [hf, cond_true, Option.some.injEq, Prod.mk.injEq] at h
        obtain ⟨rfl, rfl⟩ := h
        simp only [Bool.and_eq_true, Bool.not_eq_true'] at hf
        obtain ⟨⟨hf, hb⟩, hc⟩ := hf
        obtain rfl := nbeq hf
        exact enc_ok K hb hc pr w0 σ w cargs R hargs
    · rename_i p c fl de
      cases hf : (Nat.beq f 114 && !big && Nat.beq p 9 && Nat.beq c 9 && Nat.beq fl 0 && Nat.beq de 0) with
      | false => simp [hf] at h
      | true =>
        simp only [hf, cond_true, Option.some.injEq, Prod.mk.injEq] at h
        obtain ⟨rfl, rfl⟩ := h
        simp only [Bool.and_eq_true, Bool.not_eq_true'] at hf
        obtain ⟨⟨⟨⟨⟨hf, hb⟩, q1⟩, q2⟩, q3⟩, q4⟩ := hf
        obtain rfl := nbeq hf; obtain rfl := nbeq q1; obtain rfl := nbeq q2; obtain rfl := nbeq q3; obtain rfl := nbeq q4
        have hlen : (nats (Val.str 1)).length ≤ 300 := by
          have := K.isBig
          rw [hb] at this
          simpa using this
        obtain ⟨s1, h1, _⟩ := rec_run hlen
        have hargs' : VRs σ [recA (nats (Val.str 1)).length] cargs.toList := by
          unfold recA
          simp only [VRs, VR] at hargs ⊢
          rw [K.len] at hargs
          exact hargs
        refine (herm (call0 6) h1 rfl rfl pr w0 σ _ w cargs R hargs').mono fun e w' ⟨cv, σ', he, hv, hr⟩ => ⟨cv, σ', he, ?_, hr⟩
        simp only [VR] at hv ⊢
        obtain ⟨t, rfl, ht⟩ := hv
        rw [nats_inj (ht.trans (K.recd hb).symm)]
    · cases h

theorem orcF_ok {kb big : Bool} {a b n r : Nat} (K : KnowF kb big a b n r) : OrcOk Tryd.prog (orcF kb big a b r) := by
  intro o args v h σ w ρc hv
  unfold orcF at h
  split at h
  · rename_i t x y yt i m ho
    rw [ho] at hv
    simp only [Op.operands, List.map_cons, List.map_nil, VRs, VR] at hv
    obtain ⟨u, l1, e1, hx, u2, l2, e2, hy, e3⟩ := hv
    cases e1; cases e2
    cases h1 : (Nat.beq i 4 && Nat.beq m (a + b) && kb) with
    | false => simp [h1] at h
    | true =>
      simp only [h1, cond_true, Option.some.injEq] at h
      subst h
      simp only [Bool.and_eq_true] at h1
      obtain ⟨⟨h1, h2⟩, hk⟩ := h1
      obtain rfl := nbeq h1; obtain rfl := nbeq h2
      obtain ⟨p1, p2, p3⟩ := K.pos
      refine orc_bin ho hx hy (v' := .int .i64 ((Val.num 4).tmod (Int.ofNat (a + b)))) ?_ (by intro h; cases h) (by intro h; cases h) fun u hu => ?_
      · simp only [intBin]
        rw [show eqF (Int.ofNat (a + b)) 0 = false by rw [show (0 : Int) = Int.ofNat 0 from rfl, eqF_nat]; simp; omega]
        rfl
      · rw [(K.hash hk).2.2] at hu; exact hu
  · rename_i t x y yt i m ho
    rw [ho] at hv
    simp only [Op.operands, List.map_cons, List.map_nil, VRs, VR] at hv
    obtain ⟨u, l1, e1, hx, u2, l2, e2, hy, e3⟩ := hv
    cases e1; cases e2
    cases h1 : (Nat.beq i 10 && Nat.beq m 300) with
    | false => simp [h1] at h
    | true =>
      simp only [h1, cond_true, Option.some.injEq] at h
      subst h
      simp only [Bool.and_eq_true] at h1
      obtain ⟨h1, h2⟩ := h1
      obtain rfl := nbeq h1; obtain rfl := nbeq h2
      refine orc_bin ho hx hy (v' := .bool (ltF (Int.ofNat 300) (Val.num 10))) rfl (by intro h; cases h) (by intro h; cases h) fun u hu => ?_
      rw [K.len, ltF_nat, K.isBig] at hu; exact hu
  · rename_i x y z i ho
    rw [ho] at hv
    simp only [Op.operands, List.map_cons, List.map_nil, VRs, VR] at hv
    obtain ⟨u, l1, e1, hx, e3⟩ := hv
    cases e1
    cases h1 : (Nat.beq i 3 && Nat.beq x 105 && Nat.beq y 3 && kb) with
    | false => simp [h1] at h
    | true =>
      simp only [h1, cond_true, Option.some.injEq] at h
      subst h
      simp only [Bool.and_eq_true] at h1
      obtain ⟨⟨⟨h1, h2⟩, h3⟩, hk⟩ := h1
      obtain rfl := nbeq h1; obtain rfl := nbeq h2; obtain rfl := nbeq h3
      refine orc_conv (c := ctx none3 none3 none2) (tok orc_none) ho hx (v' := .int .i64 (wrapF .i64 (Val.num 3))) ?_ fun u hu => ?_
      · simp only [convV, ctx_tt, tt3, tt105]
      · simp only [VR] at hu ⊢
        rw [hu, (K.hash hk).2.1]
  · rename_i cl i ho
    split at h
    case h_2 => cases h
    rename_i hcal
    split at h
    case h_2 => cases h
    rename_i t hty
    cases h1 : (Nat.beq i 1 && Nat.beq t 9) with
    | false => simp [h1] at h
    | true =>
      simp only [h1, cond_true, Option.some.injEq] at h
      subst h
      simp only [Bool.and_eq_true] at h1
      obtain ⟨h1, h2⟩ := h1
      obtain rfl := nbeq h1; obtain rfl := nbeq h2
      rw [ho] at hv
      simp only [Op.operands, Call.operands, hcal, Array.toList_append, List.map_append, VRs, VR] at hv
      obtain ⟨u, l1, e1, hx, e3⟩ := hv
      subst e3; subst hx
      have hargs : cl.args.toList.map ρc = [.string (Val.str 1)] := by simpa using e1
      have hev := evs_map hargs (vs := [.str (nats (Val.str 1))]) (by simp [bareV])
      obtain ⟨u, hu, hur⟩ := orc_by (P := Tryd.prog) (c := ctx none3 none3 none2) (tok orc_none) (o := o) (ρc := ρc) (w := w) (v' := .int .i64 (Int.ofNat (nats (Val.str 1)).length)) (by
        rw [ho]
        simp only [pureV0, hcal, hev, hty, lenV, ctx_tt, tt9]
        rfl)
      refine ⟨u, hu, ?_⟩
      simp only [VR] at hur ⊢
      rw [hur, K.len]
  · cases h
end
end Go.Proofs.YtdhljfjmalphiaaDoor.Tab
