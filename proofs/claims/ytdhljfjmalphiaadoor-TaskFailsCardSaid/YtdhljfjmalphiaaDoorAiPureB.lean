/- Equality of values: the evaluator's answer is the model's. -/
import Derived.Test.YtdhljfjmalphiaaDoorAiPureA
import Derived.Laws.StructEq
namespace Go.Ai
section
variable {P : Program} {c : Ctx} {ng : Nat} {pr : Prt} {w0 : World} {σ : Sg} {s : S} {w : World}

theorem sameAddr_block {cb o o' : Nat} : (sameAddr ⟨cb, o, none⟩ ⟨cb, o', none⟩).run P w = .ok (o == o') w := by
  simp only [sameAddr, beq_self_eq_true, if_true, Sem.run_pure]
  congr 1
  rw [Bool.eq_iff_iff]
  simp
theorem sameAddr_apart {cb o cb' o' : Nat} {c1 c2 : Array Value} {e1 e2 : Nat} (hne : cb ≠ cb') (h1 : w.heap[cb]? = some (.cells c1 e1 (0, 0))) (h2 : w.heap[cb']? = some (.cells c2 e2 (0, 0))) :
    (sameAddr ⟨cb, o, none⟩ ⟨cb', o', none⟩).run P w = .ok false w := by
  have f1 : ∀ x, w.frozen? ⟨cb, x, none⟩ = false := fun x => by simp [World.frozen?, h1]
  have f2 : ∀ x, w.frozen? ⟨cb', x, none⟩ = false := fun x => by simp [World.frozen?, h2]
  have s1 : w.shape? cb = some (e1, c1.size) := by simp [World.shape?, h1]
  have s2 : w.shape? cb' = some (e2, c2.size) := by simp [World.shape?, h2]
  have hne' : (cb == cb') = false := by simpa using hne
  simp [sameAddr, hne', f1, f2, noView, viewAt, s1, s2, mayBeOne, stringish]

theorem ptrEq_ok [Val] (R : Rel ng pr w0 σ s w) {b o b' o' : Nat} {r : Bool} {cb co ce cb' co' ce' : Nat} (h : ptrEq s b o b' o' = some r)
    (h1 : σ b = some (cb, co, ce)) (h2 : σ b' = some (cb', co', ce')) : (sameAddr ⟨cb, co + o, none⟩ ⟨cb', co' + o', none⟩).run P w = .ok r w := by
  unfold ptrEq at h
  split at h
  · rename_i hb
    have hb' := Nat.eq_of_beq_eq_true hb
    subst hb'
    rw [h1] at h2; cases h2
    simp only [Option.some.injEq] at h; subst h
    rw [sameAddr_block]
    congr 1
    rw [Bool.eq_iff_iff, Nat.beq_eq, beq_iff_eq]; omega
  · rename_i hb
    have hne := Nat.ne_of_beq_eq_false hb
    split at h
    case h_2 => cases h
    rename_i sb cs sb' cs' g1 g2
    cases hstr : (sb.isStr || sb'.isStr) with
    | true => simp [hstr] at h
    | false =>
    simp only [hstr, cond_false] at h
    simp only [Bool.or_eq_false_iff] at hstr
    split at h
    case h_2 => cases h
    rename_i x x' n1 n2
    cases h
    rw [nth_eq] at n1 n2
    obtain ⟨_, _, _, c1, e1, fr1, a1, a2, a3, a4, a5, a6⟩ := R.obj b _ g1
    obtain ⟨_, _, _, c2, e2, fr2, b1, b2, b3, b4, b5, b6⟩ := R.obj b' _ g2
    rw [h1] at a1; cases a1
    rw [h2] at b1; cases b1
    have z1 := (a6 rfl).2.1 hstr.1
    have z2 := (b6 rfl).2.1 hstr.2
    subst z1; subst z2
    have l1 : o < cs.length := by
      rcases Nat.lt_or_ge o cs.length with h' | h'
      · exact h'
      · simp [List.getElem?_eq_none h'] at n1
    have l2 : o' < cs'.length := by
      rcases Nat.lt_or_ge o' cs'.length with h' | h'
      · exact h'
      · simp [List.getElem?_eq_none h'] at n2
    by_cases e : cb = cb'
    · subst e
      exact (R.disj b b' _ _ cb co ce co' ce' hne g1 g2 rfl h1 h2).elim
    · exact sameAddr_apart e a2 b2

theorem eqElems_run [Val] (d : Nat) (e n : Nat) (xs ys : Array Value) (f : Nat → V → V → Option Bool) {vx vy : List V} (T : TOk P c)
    (hf : ∀ x y u v r, f e x y = some r → VR σ x u → VR σ y v → (Op.equalIn d e u v).run P w = .ok r w)
    (hx : VRs σ vx xs.toList) (hy : VRs σ vy ys.toList) : ∀ (l i : Nat) (r : Bool), eqElems f c e n vx vy l (i * n) = some r →
    (forIn (m := Sem) (List.range' i l) ((none, ()) : Option Bool × Unit) fun j _ => do
        let a ← part e xs (j * n)
        let b ← part e ys (j * n)
        let r ← Op.equalIn d e a b
        if (!r) = true then pure (ForInStep.done (some false, ())) else pure (ForInStep.yield (none, ()))).run P w = .ok (if r then none else some false, ()) w := by
  intro l
  induction l with
  | zero => intro i r h; simp only [eqElems, Option.some.injEq] at h; subst h; simp
  | succ l ih =>
    intro i r h
    simp only [eqElems] at h
    cases h1 : partV c e vx (i * n) with
    | none => simp [h1] at h
    | some x =>
    cases h2 : partV c e vy (i * n) with
    | none => simp [h1, h2] at h
    | some y =>
    simp only [h1, h2] at h
    obtain ⟨u, hu, hru⟩ := part_ok (P := P) (w := w) T h1 hx
    obtain ⟨v, hv, hrv⟩ := part_ok (P := P) (w := w) T h2 hy
    cases h3 : f e x y with
    | none => simp [h3] at h
    | some q =>
      have hq := hf _ _ _ _ _ h3 hru hrv
      simp only [List.range'_succ, List.forIn_cons, Sem.run_bind, hu, hv, hq, Result.andThen_ok]
      cases q with
      | true =>
        simp only [h3] at h
        simp only [Bool.not_true, Bool.false_eq_true, if_false, Sem.run_pure, Result.andThen_ok]
        have := ih (i + 1) r (by rw [Nat.succ_mul]; exact h)
        simpa using this
      | false =>
        simp only [h3, Option.some.injEq] at h; subst h
        simp

theorem eqFields_run [Val] (d : Nat) (xs ys : Array Value) (f : Nat → V → V → Option Bool) {vx vy : List V} (T : TOk P c)
    (hf : ∀ t x y u v r, f t x y = some r → VR σ x u → VR σ y v → (Op.equalIn d t u v).run P w = .ok r w)
    (hx : VRs σ vx xs.toList) (hy : VRs σ vy ys.toList) : ∀ (l : List Field) (fs : List (Nat × Nat × Nat × Bool)) (r : Bool), fieldsK P l = some fs → eqFields f c vx vy fs = some r →
    (Op.eqFields d xs ys l).run P w = .ok r w := by
  intro l
  induction l with
  | nil => intro fs r h1 h; simp [fieldsK] at h1; subst h1; simp [eqFields] at h; subst h; simp [Op.eqFields]
  | cons fd l ih =>
    intro fs r hk h
    simp only [fieldsK] at hk
    cases k1 : P.info? fd.type with
    | none => simp [k1] at hk
    | some info =>
    cases k2 : fieldsK P l with
    | none => simp [k1, k2] at hk
    | some fs' =>
    simp only [k1, k2, Option.some.injEq] at hk
    subst hk
    simp only [eqFields] at h
    simp only [Op.eqFields, Sem.run_ite]
    cases hbl : (fd.name == "_") with
    | true =>
      simp only [hbl] at h
      have : fd.name = "_" := by simpa using hbl
      rw [if_neg (by simp [this])]
      exact ih _ _ k2 h
    | false =>
      simp only [hbl] at h
      have : fd.name ≠ "_" := by simpa using hbl
      rw [if_pos this]
      cases h1 : partV c fd.type vx fd.offset with
      | none => simp [h1] at h
      | some x =>
      cases h2 : partV c fd.type vy fd.offset with
      | none => simp [h1, h2] at h
      | some y =>
      simp only [h1, h2] at h
      obtain ⟨u, hu, hru⟩ := part_ok (P := P) (w := w) T h1 hx
      obtain ⟨v, hv, hrv⟩ := part_ok (P := P) (w := w) T h2 hy
      cases h3 : f fd.type x y with
      | none => simp [h3] at h
      | some q =>
        have hq := hf _ _ _ _ _ _ h3 hru hrv
        simp only [Sem.run_bind, hu, hv, hq, Result.andThen_ok, Sem.run_ite]
        cases q with
        | true =>
          simp only [h3] at h
          simp only [Bool.not_true, Bool.false_eq_true, if_false]
          exact ih _ _ k2 h
        | false =>
          simp only [h3, Option.some.injEq] at h; subst h
          simp

theorem eqV_ok [Val] (T : TOk P c) (R : Rel ng pr w0 σ s w) : ∀ (d t : Nat) (x y : V) (r : Bool), eqV c s d t x y = some r → ∀ (D : Nat), d ≤ D → ∀ (u v : Value), VR σ x u → VR σ y v →
    (Op.equalIn D t u v).run P w = .ok r w := by
  intro d
  induction d with
  | zero => intro t x y r h; simp [eqV] at h
  | succ d ih =>
    intro t x y r h D hD u v hu hv
    obtain ⟨D, rfl⟩ : ∃ m, D = m + 1 := ⟨D - 1, by omega⟩
    simp only [eqV] at h
    cases ht : c.tt.get t with
    | none => simp [ht] at h
    | some i =>
    simp only [ht] at h
    obtain ⟨info, de, z, h1, h2, h3, h4, h6, h7, h8, h9⟩ := T.at ht
    have hud := run_underlying (w := w) h2
    split at h
    case h_1 =>
      rename_i hk
      rw [hk] at h6; have := kOf_bool h6; subst this
      simp only [VR] at hu hv; subst hu; subst hv
      cases h
      simp [Op.equalIn, hud]
    case h_2 =>
      rename_i kt k a k' b hk
      rw [hk] at h6; have := kOf_int h6; subst this
      simp only [VR] at hu hv; subst hu; subst hv
      cases hkk : kindEq k k' with
      | false => simp [hkk] at h
      | true =>
        have := kindEq_eq.1 hkk; subst this
        simp only [hkk, cond_true, Option.some.injEq] at h; subst h
        simp [Op.equalIn, hud, eqF_eq]
    case h_3 =>
      rename_i a b hk
      rw [hk] at h6; have := kOf_str h6; subst this
      simp only [VR] at hu hv
      obtain ⟨u', rfl, hu⟩ := hu
      obtain ⟨v', rfl, hv⟩ := hv
      cases h
      subst hu; subst hv
      rw [← nats_beq]
      simp only [Op.equalIn, hud, Sem.run_bind, Result.andThen_ok, beq_toListBytes, ByteArray.toList_eq, Sem.run_pure]
    case h_4 =>
      rename_i e hk
      rw [hk] at h6; have := kOf_ptr h6; subst this
      simp only [VR] at hu hv; subst hu; subst hv; cases h
      simp [Op.equalIn, hud]
    case h_5 =>
      rename_i e b o hk
      rw [hk] at h6; have := kOf_ptr h6; subst this
      simp only [VR] at hu hv; subst hu; obtain ⟨_, _, _, _, rfl⟩ := hv; cases h
      simp [Op.equalIn, hud]
    case h_6 =>
      rename_i e b o hk
      rw [hk] at h6; have := kOf_ptr h6; subst this
      simp only [VR] at hu hv; subst hv; obtain ⟨_, _, _, _, rfl⟩ := hu; cases h
      simp [Op.equalIn, hud]
    case h_7 =>
      rename_i e b o b' o' hk
      rw [hk] at h6; have := kOf_ptr h6; subst this
      simp only [VR] at hu hv
      obtain ⟨cb, co, ce, hs1, rfl⟩ := hu
      obtain ⟨cb', co', ce', hs2, rfl⟩ := hv
      cases he : c.tt.get e with
      | none => simp [he] at h
      | some ie =>
        simp only [he] at h
        cases hz : Nat.beq ie.size 0 with
        | true => simp [hz] at h
        | false =>
          simp only [hz, cond_false] at h
          have hz' := Nat.ne_of_beq_eq_false hz
          simp only [Op.equalIn, hud, Sem.run_bind, Result.andThen_ok, run_size T he, Sem.run_ite]
          rw [if_pos (by simpa using hz')]
          exact ptrEq_ok R h hs1 hs2
    case h_8 =>
      rename_i e hk
      rw [hk] at h6; have := kOf_slice h6; subst this
      simp only [VR] at hu hv; subst hu; subst hv; cases h
      simp [Op.equalIn, hud]
    case h_9 =>
      rename_i hk
      rw [hk] at h6; have := kOf_slice h6; subst this
      simp only [VR] at hu hv; subst hu; obtain ⟨_, _, rfl, _⟩ := hv; cases h
      simp [Op.equalIn, hud]
    case h_10 =>
      rename_i hk
      rw [hk] at h6; have := kOf_slice h6; subst this
      simp only [VR] at hu hv; subst hv; obtain ⟨_, _, rfl, _⟩ := hu; cases h
      simp [Op.equalIn, hud]
    case h_11 =>
      rename_i hk
      rw [hk] at h6; have := kOf_map h6; subst this
      simp only [VR] at hu hv; subst hu; subst hv; cases h
      simp [Op.equalIn, hud]
    case h_12 =>
      rename_i hk
      rw [hk] at h6; have := kOf_map h6; subst this
      simp only [VR] at hu hv; subst hu; obtain ⟨_, _, _, _, rfl⟩ := hv; cases h
      simp [Op.equalIn, hud]
    case h_13 =>
      rename_i hk
      rw [hk] at h6; have := kOf_map h6; subst this
      simp only [VR] at hu hv; subst hv; obtain ⟨_, _, _, _, rfl⟩ := hu; cases h
      simp [Op.equalIn, hud]
    case h_14 =>
      rename_i hk
      rw [hk] at h6; obtain ⟨_, _, _, rfl⟩ := kOf_func h6
      simp only [VR] at hu hv; subst hu; subst hv; cases h
      simp [Op.equalIn, hud]
    case h_15 =>
      rename_i hk
      rw [hk] at h6; obtain ⟨_, _, _, rfl⟩ := kOf_func h6
      simp only [VR] at hu hv; subst hu; obtain ⟨_, rfl, _⟩ := hv; cases h
      simp [Op.equalIn, hud]
    case h_16 =>
      rename_i hk
      rw [hk] at h6; obtain ⟨_, _, _, rfl⟩ := kOf_func h6
      simp only [VR] at hu hv; subst hv; obtain ⟨_, rfl, _⟩ := hu; cases h
      simp [Op.equalIn, hud]
    case h_17 =>
      rename_i hk
      rw [hk] at h6; obtain ⟨_, rfl⟩ := kOf_ifc h6
      simp only [VR] at hu hv; subst hu; obtain ⟨_, rfl, _⟩ := hv; cases h
      simp [Op.equalIn, hud]
    case h_18 =>
      rename_i hk
      rw [hk] at h6; obtain ⟨_, rfl⟩ := kOf_ifc h6
      simp only [VR] at hu hv; subst hv; obtain ⟨_, rfl, _⟩ := hu; cases h
      simp [Op.equalIn, hud]
    case h_19 =>
      rename_i fs xs ys hk
      rw [hk] at h6; obtain ⟨fields, rfl, hfk⟩ := kOf_struct h6
      simp only [VR] at hu hv
      obtain ⟨ua, rfl, hu⟩ := hu
      obtain ⟨va, rfl, hv⟩ := hv
      cases hc : i.cmp with
      | false => simp [hc] at h
      | true =>
        simp only [hc, cond_true] at h
        have hcm := (T.tt t i ht).cmp hc
        have hfo : P.fieldsOf t = fields := by simp [Program.fieldsOf, h2]
        rw [run_equalIn_struct w D t ua va (by rw [hfo]; exact h2) hcm.1, hfo]
        exact eqFields_run D ua va _ T (fun t x y u v r h hu hv => ih t x y r h D (by omega) u v hu hv) hu hv _ _ _ hfk h
    case h_20 =>
      rename_i n e xs ys hk
      rw [hk] at h6; have := kOf_arr h6; subst this
      simp only [VR] at hu hv
      obtain ⟨ua, rfl, hu⟩ := hu
      obtain ⟨va, rfl, hv⟩ := hv
      cases he : c.tt.get e with
      | none => simp [he] at h
      | some ie =>
        simp only [he] at h
        simp only [Op.equalIn, hud, Sem.run_bind, Result.andThen_ok, run_size T he]
        have := eqElems_run (P := P) (w := w) D e ie.size ua va _ T (fun x y u v r h hu hv => ih e x y r h D (by omega) u v hu hv) hu hv n 0 r (by simpa using h)
        rw [Std.Legacy.Range.forIn_eq_forIn_range']
        simp only [Std.Legacy.Range.size, Nat.sub_zero, Nat.add_sub_cancel, Nat.div_one]
        rw [this]
        cases r <;> simp
    case h_21 => cases h
end
end Go.Ai
