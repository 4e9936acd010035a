/- Operators, slices, conversions, maps. -/
import Derived.Test.YtdhljfjmalphiaaDoorAiPureC
namespace Go.Ai
section
variable {P : Program} {c : Ctx} {ng : Nat} {pr : Prt} {w0 : World} {σ : Sg} {s : S} {w : World}

theorem ofConst {xo : Operand} (h : isConst xo = true) : ∃ v, xo = .const v := by cases xo <;> simp [isConst] at h; exact ⟨_, rfl⟩
theorem eqGuard_nil {op : BinOp} {t : Nat} {xo yo : Operand} (h : (isConst xo || isConst yo) = true) : (eqGuard op t xo yo .nilIface .nilIface).run P w = .ok () w := by
  unfold eqGuard
  simp only [Bool.or_eq_true] at h
  cases op <;> simp only [] <;> try rfl
  all_goals
    rcases h with h | h
    · obtain ⟨v, rfl⟩ := ofConst h; simp
    · obtain ⟨v, rfl⟩ := ofConst h; simp

theorem binOp_eql {t : Nat} {u u' : Value} {r : Bool} (he : (Op.equal t u u').run P w = .ok r w)
    (h1 : ∀ k a k' b, u = .int k a → u' = .int k' b → False) (h2 : ∀ k a k' b, u = .float k a → u' = .float k' b → False)
    (h3 : ∀ k a a' k' b b', u = .complex k a a' → u' = .complex k' b b' → False) (h4 : ∀ a b, u = .string a → u' = .string b → False) :
    (binOp .eql t u u').run P w = .ok (.bool r) w := by
  unfold binOp
  split <;> first | (exact (h1 _ _ _ _ rfl rfl).elim) | (exact (h2 _ _ _ _ rfl rfl).elim) | (exact (h3 _ _ _ _ _ _ rfl rfl).elim) | (exact (h4 _ _ rfl rfl).elim) | simp_all
theorem binOp_neq {t : Nat} {u u' : Value} {r : Bool} (he : (Op.equal t u u').run P w = .ok r w)
    (h1 : ∀ k a k' b, u = .int k a → u' = .int k' b → False) (h2 : ∀ k a k' b, u = .float k a → u' = .float k' b → False)
    (h3 : ∀ k a a' k' b b', u = .complex k a a' → u' = .complex k' b b' → False) (h4 : ∀ a b, u = .string a → u' = .string b → False) :
    (binOp .neq t u u').run P w = .ok (.bool !r) w := by
  unfold binOp
  split <;> first | (exact (h1 _ _ _ _ rfl rfl).elim) | (exact (h2 _ _ _ _ rfl rfl).elim) | (exact (h3 _ _ _ _ _ _ rfl rfl).elim) | (exact (h4 _ _ rfl rfl).elim) | simp_all
theorem VR.inv_int [Val] {x : V} {k : IntKind} {a : Int} (h : VR σ x (.int k a)) : x = .int k a ∨ ∃ i, x = .sint k i := by
  cases x <;> simp only [VR] at h <;> first
    | (obtain ⟨_, h, _⟩ := h; cases h; done) | (obtain ⟨_, _, h, _⟩ := h; cases h; done) | (obtain ⟨_, _, _, _, h⟩ := h; cases h; done) | (cases h; done) | (cases h; exact .inl rfl) | (cases h; exact .inr ⟨_, rfl⟩)
theorem VR.inv_string [Val] {x : V} {a : ByteArray} (h : VR σ x (.string a)) : x = .str (nats a) ∨ ∃ i, x = .sstr i := by
  cases x <;> simp only [VR] at h <;> first
    | (obtain ⟨_, h, h2⟩ := h; cases h; subst h2; exact .inl rfl) | (obtain ⟨_, h, _⟩ := h; cases h; done) | (obtain ⟨_, _, h, _⟩ := h; cases h; done) | (obtain ⟨_, _, _, _, h⟩ := h; cases h; done) | (cases h; done) | (cases h; exact .inr ⟨_, rfl⟩)
theorem eqV_sint {k : IntKind} {i : Nat} (d t : Nat) (y : V) : eqV c s d t (.sint k i) y = none := by
  cases d with
  | zero => rfl
  | succ d =>
    simp only [eqV]
    cases c.tt.get t with
    | none => rfl
    | some ti => simp only []; cases ti.k <;> first | rfl | (cases y <;> rfl)
theorem eqV_sint' {k : IntKind} {i : Nat} (d t : Nat) (x : V) : eqV c s d t x (.sint k i) = none := by
  cases d with
  | zero => rfl
  | succ d =>
    simp only [eqV]
    cases c.tt.get t with
    | none => rfl
    | some ti => simp only []; cases ti.k <;> first | rfl | (cases x <;> rfl)
theorem eqV_sstr {i : Nat} (d t : Nat) (y : V) : eqV c s d t (.sstr i) y = none := by
  cases d with
  | zero => rfl
  | succ d =>
    simp only [eqV]
    cases c.tt.get t with
    | none => rfl
    | some ti => simp only []; cases ti.k <;> first | rfl | (cases y <;> rfl)
theorem eqV_sstr' {i : Nat} (d t : Nat) (x : V) : eqV c s d t x (.sstr i) = none := by
  cases d with
  | zero => rfl
  | succ d =>
    simp only [eqV]
    cases c.tt.get t with
    | none => rfl
    | some ti => simp only []; cases ti.k <;> first | rfl | (cases x <;> rfl)
theorem VR.inv_float [Val] {x : V} {k : FloatKind} {a : Nat} (h : VR σ x (.float k a)) : False := by
  cases x <;> simp only [VR] at h <;> first
    | (obtain ⟨_, h, _⟩ := h; cases h; done) | (obtain ⟨_, _, h, _⟩ := h; cases h; done) | (obtain ⟨_, _, _, _, h⟩ := h; cases h; done) | (cases h; done)
theorem VR.inv_complex [Val] {x : V} {k : FloatKind} {a b : Nat} (h : VR σ x (.complex k a b)) : False := by
  cases x <;> simp only [VR] at h <;> first
    | (obtain ⟨_, h, _⟩ := h; cases h; done) | (obtain ⟨_, _, h, _⟩ := h; cases h; done) | (obtain ⟨_, _, _, _, h⟩ := h; cases h; done) | (cases h; done)
theorem VR.inv_agg [Val] {x : V} {a : Array Value} (h : VR σ x (.agg a)) : ∃ cs, x = .agg cs := by
  cases x <;> simp only [VR] at h <;> first
    | (exact ⟨_, rfl⟩) | (obtain ⟨_, h, _⟩ := h; cases h; done) | (obtain ⟨_, _, h, _⟩ := h; cases h; done) | (obtain ⟨_, _, _, _, h⟩ := h; cases h; done) | (cases h; done)
theorem VR.inv_nilIface [Val] {x : V} (h : VR σ x .nilIface) : x = .nilifc := by
  cases x <;> simp only [VR] at h <;> first
    | rfl | (obtain ⟨_, h, _⟩ := h; cases h; done) | (obtain ⟨_, _, h, _⟩ := h; cases h; done) | (obtain ⟨_, _, _, _, h⟩ := h; cases h; done) | (cases h; done)

theorem equalIn_nil {t : Nat} {ms : Array (String × TypeId)} (h : P.underlying t = some (.interface ms)) (D : Nat) : (Op.equalIn (D + 1) t .nilIface .nilIface).run P w = .ok true w := by
  simp only [Op.equalIn, Sem.run_bind, run_underlying h, Result.andThen_ok, Sem.run_pure]
theorem binV_ok [Val] (T : TOk P c) (R : Rel ng pr w0 σ s w) {op : BinOp} {t : Nat} {xo yo : Operand} {x y v : V} {u u' : Value} (h : binV c s op t xo yo x y = some v) (hu : VR σ x u) (hu' : VR σ y u') :
    ∃ r, (do eqGuard op t xo yo u u'; binOp op t u u' : Sem Value).run P w = .ok r w ∧ VR σ v r := by
  have guard : ∀ {r : Value}, (eqGuard op t xo yo u u').run P w = .ok () w → (binOp op t u u').run P w = .ok r w → (do eqGuard op t xo yo u u'; binOp op t u u' : Sem Value).run P w = .ok r w := by
    intro r h1 h2
    simp only [Sem.run_bind, h1, h2, Result.andThen_ok]
  unfold binV at h
  split at h
  case h_1 =>
    rename_i k a k' b
    simp only [VR] at hu hu'; subst hu; subst hu'
    have hg : (eqGuard op t xo yo (.int k a) (.int k' b)).run P w = .ok () w := eqGuard_none (by intro _ _ h; cases h) (by intro h; cases h)
    split at h
    · split at h
      · rename_i n hn
        cases h
        refine ⟨.int k n, guard hg ?_, by simp [VR]⟩
        have := shiftV_ok (P := P) (w := w) (yk := k') hn
        simpa [binOp] using this
      · cases h
    · split at h
      · rename_i n hn
        cases h
        refine ⟨.int k n, guard hg ?_, by simp [VR]⟩
        have := shiftV_ok (P := P) (w := w) (yk := k') hn
        simpa [binOp] using this
      · cases h
    · rename_i n1 n2
      cases hk : kindEq k k' with
      | false => simp [hk] at h
      | true =>
        have := kindEq_eq.1 hk; subst this
        simp only [hk, cond_true] at h
        obtain ⟨r, hr, hv⟩ := intBin_ok (P := P) (w := w) (σ := σ) (t := t) h (fun e => n1 e) (fun e => n2 e)
        exact ⟨r, guard hg hr, hv⟩
  case h_2 =>
    simp only [VR] at hu hu'
    obtain ⟨a, rfl, rfl⟩ := hu
    obtain ⟨b, rfl, rfl⟩ := hu'
    obtain ⟨r, hr, hv⟩ := strBin_ok (P := P) (w := w) (σ := σ) h
    exact ⟨r, guard (eqGuard_none (by intro _ _ h; cases h) (by intro h; cases h)) (by simpa [binOp] using hr), hv⟩
  case h_3 =>
    simp only [VR] at hu hu'; subst hu; subst hu'
    cases ht : c.tt.get t with
    | none => simp [ht] at h
    | some i =>
    simp only [ht] at h
    obtain ⟨info, d, z, h1, h2, h3, h4, h6, h7, h8, h9⟩ := T.at ht
    split at h
    case h_2 => cases h
    rename_i hk
    rw [hk] at h6; obtain ⟨ms, rfl⟩ := kOf_ifc h6
    cases hc : (isConst xo || isConst yo) with
    | false => simp [hc] at h
    | true =>
      simp only [hc, cond_true] at h
      have hg := eqGuard_nil (P := P) (w := w) (op := op) (t := t) hc
      have he : (Op.equal t .nilIface .nilIface).run P w = .ok true w := by
        exact equalIn_nil h2 9999
      split at h
      · cases h
        exact ⟨.bool true, guard hg (binOp_eql he (by intro _ _ _ _ h; cases h) (by intro _ _ _ _ h; cases h) (by intro _ _ _ _ _ _ h; cases h) (by intro _ _ h; cases h)), by simp [VR]⟩
      · cases h
        exact ⟨.bool false, guard hg (binOp_neq he (by intro _ _ _ _ h; cases h) (by intro _ _ _ _ h; cases h) (by intro _ _ _ _ _ _ h; cases h) (by intro _ _ h; cases h)), by simp [VR]⟩
      · cases h
  case h_4 =>
    rename_i xs ys
    cases ht : c.tt.get t with
    | none => simp [ht] at h
    | some i =>
      simp only [ht] at h
      cases hc : i.cmp with
      | false => simp [hc] at h
      | true =>
        simp only [hc, cond_true] at h
        have hcm := (T.tt t i ht).cmp hc
        have hu1 := hu
        have hu1' := hu'
        simp only [VR] at hu hu'
        obtain ⟨a, rfl, _⟩ := hu
        obtain ⟨b, rfl, _⟩ := hu'
        split at h
        · split at h
          · rename_i r hr
            cases h
            have := eqV_ok T R 8 t _ _ r hr 10000 (by omega) _ _ hu1 hu1'
            exact ⟨.bool r, guard (eqGuard_agg hcm.2) (binOp_eql this (by intro _ _ _ _ h; cases h) (by intro _ _ _ _ h; cases h) (by intro _ _ _ _ _ _ h; cases h) (by intro _ _ h; cases h)), by simp [VR]⟩
          · cases h
        · split at h
          · rename_i r hr
            cases h
            have := eqV_ok T R 8 t _ _ r hr 10000 (by omega) _ _ hu1 hu1'
            exact ⟨.bool !r, guard (eqGuard_agg hcm.2) (binOp_neq this (by intro _ _ _ _ h; cases h) (by intro _ _ _ _ h; cases h) (by intro _ _ _ _ _ _ h; cases h) (by intro _ _ h; cases h)), by simp [VR]⟩
          · cases h
        · cases h
  case h_5 =>
    rename_i n1 n2 n3 n4
    have g1 : ∀ k a k' b, u = .int k a → u' = .int k' b → False := by
      intro k a k' b e1 e2; subst e1; subst e2
      rcases VR.inv_int hu with q1 | ⟨i, q1⟩
      · rcases VR.inv_int hu' with q2 | ⟨i, q2⟩
        · exact n1 _ _ _ _ q1 q2
        · subst q2; simp only [eqV_sint'] at h; split at h <;> cases h
      · subst q1; simp only [eqV_sint] at h; split at h <;> cases h
    have g2 : ∀ k a k' b, u = .float k a → u' = .float k' b → False := by
      intro k a k' b e1 e2; subst e1; exact VR.inv_float hu
    have g3 : ∀ k a a' k' b b', u = .complex k a a' → u' = .complex k' b b' → False := by
      intro k a a' k' b b' e1 e2; subst e1; exact VR.inv_complex hu
    have g4 : ∀ a b, u = .string a → u' = .string b → False := by
      intro a b e1 e2; subst e1; subst e2
      rcases VR.inv_string hu with q1 | ⟨i, q1⟩
      · rcases VR.inv_string hu' with q2 | ⟨i, q2⟩
        · exact n2 _ _ q1 q2
        · subst q2; simp only [eqV_sstr'] at h; split at h <;> cases h
      · subst q1; simp only [eqV_sstr] at h; split at h <;> cases h
    have hg : (eqGuard op t xo yo u u').run P w = .ok () w := by
      refine eqGuard_none (fun a b e1 e2 => ?_) (fun e1 e2 => ?_)
      · subst e1; subst e2
        obtain ⟨_, q1⟩ := VR.inv_agg hu
        obtain ⟨_, q2⟩ := VR.inv_agg hu'
        exact n4 _ _ q1 q2
      · subst e1; subst e2
        exact n3 (VR.inv_nilIface hu) (VR.inv_nilIface hu')
    split at h
    · split at h
      · rename_i r hr
        cases h
        have := eqV_ok T R 8 t _ _ r hr 10000 (by omega) _ _ hu hu'
        exact ⟨.bool r, guard hg (binOp_eql this g1 g2 g3 g4), by simp [VR]⟩
      · cases h
    · split at h
      · rename_i r hr
        cases h
        have := eqV_ok T R 8 t _ _ r hr 10000 (by omega) _ _ hu hu'
        exact ⟨.bool !r, guard hg (binOp_neq this g1 g2 g3 g4), by simp [VR]⟩
      · cases h
    · cases h

-- places
theorem natOf_ok [Val] {v : V} {n : Nat} {u : Value} (h : natOf v = some n) (hu : VR σ v u) : ∃ k, u = .int k (n : Int) := by
  unfold natOf at h
  split at h
  · cases h; simp only [VR] at hu; exact ⟨_, hu⟩
  · cases h
theorem sliceBound_ok {u : Value} {n y : Nat} {code : BoundsCode} {k : IntKind} (hu : u = .int k (n : Int)) (h : n ≤ y) : (Instr.sliceBound u y code).run P w = .ok n w := by
  subst hu
  simp only [Instr.sliceBound, asIntOf, pure_bind, Sem.run_ite]
  rw [if_pos (by omega)]
  simp

theorem bounds_ok [Val] {ρ : Operand → Option V} {ρc : Operand → Value} (hρ : ∀ x v, ρ x = some v → VR σ v (ρc x)) {lo hi mx : Option Operand} {isS : Bool} {len cap l h m cap' : Nat}
    (hm : optNat ρ cap mx = some m) (hh : optNat ρ len hi = some h) (hl : optNat ρ 0 lo = some l) (h1 : l ≤ h) (h2 : h ≤ m) (h3 : m ≤ cap) (hmx : mx.isSome = true → hi.isSome = true) (hc : cap ≤ cap') (hlen : hi = none → len ≤ cap') :
    (Instr.sliceBounds isS len cap' (lo.map ρc) (hi.map ρc) (mx.map ρc)).run P w = .ok (l, h, if mx.isSome then m else cap') w := by
  have one : ∀ {o : Option Operand} {d n : Nat} {x : Operand}, o = some x → optNat ρ d o = some n → ∃ k, ρc x = .int k (n : Int) := by
    intro o d n x e h
    subst e
    simp only [optNat] at h
    split at h
    · rename_i v hv; exact natOf_ok h (hρ _ _ hv)
    · cases h
  unfold Instr.sliceBounds
  cases mx with
  | some x =>
    obtain ⟨k, hk⟩ := one rfl hm
    cases hi with
    | none => simp at hmx
    | some y =>
      obtain ⟨k', hk'⟩ := one rfl hh
      simp only [Option.map_some, Sem.run_bind, sliceBound_ok hk (Nat.le_trans h3 hc), sliceBound_ok hk' h2, Result.andThen_ok, Option.isSome_some, if_true]
      cases lo with
      | none => simp only [optNat, Option.some.injEq] at hl; subst hl; simp
      | some z =>
        obtain ⟨k2, hk2⟩ := one rfl hl
        simp [sliceBound_ok hk2 h1]
  | none =>
    simp only [optNat, Option.some.injEq] at hm; subst hm
    cases hi with
    | none =>
      simp only [optNat, Option.some.injEq] at hh; subst hh
      simp only [Option.map_none, Sem.run_bind, Sem.run_pure, Result.andThen_ok]
      cases lo with
      | none => simp only [optNat, Option.some.injEq] at hl; subst hl; simp
      | some z =>
        obtain ⟨k2, hk2⟩ := one rfl hl
        simp [sliceBound_ok hk2 h1]
    | some y =>
      obtain ⟨k', hk'⟩ := one rfl hh
      simp only [Option.map_none, Option.map_some, Sem.run_bind, Sem.run_pure, Result.andThen_ok, sliceBound_ok hk' (Nat.le_trans h2 hc)]
      cases lo with
      | none => simp only [optNat, Option.some.injEq] at hl; subst hl; simp
      | some z =>
        obtain ⟨k2, hk2⟩ := one rfl hl
        simp [sliceBound_ok hk2 h1]
end
end Go.Ai
