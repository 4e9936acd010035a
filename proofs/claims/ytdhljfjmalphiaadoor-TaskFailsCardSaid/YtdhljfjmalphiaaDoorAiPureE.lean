/- Slices, places, conversions, maps, lengths; all operations that leave memory alone. -/
import Derived.Test.YtdhljfjmalphiaaDoorAiPureD
namespace Go.Ai
section
variable {P : Program} {c : Ctx} {ng : Nat} {pr : Prt} {w0 : World} {σ : Sg} {s : S} {w : World}

theorem nats_extract (x : ByteArray) (l h : Nat) : nats (x.extract l h) = ((nats x).drop l).take (h - l) := by
  simp only [nats, ByteArray.data_extract, Array.toList_extract, List.map_take, List.map_drop, List.extract_eq_take_drop]
theorem here_ok [Val] (R : Rel ng pr w0 σ s w) {b n cb co ce : Nat} (h : s.here b n = true) (hσ : σ b = some (cb, co, ce)) : co + n ≤ ce := by
  unfold S.here at h
  split at h
  · rename_i rw sb cs hb
    obtain ⟨cb', co', ce', c, el, fr, h1, h2, h3, h4, h5, _⟩ := R.obj b _ hb
    rw [hσ] at h1; cases h1
    have := Nat.le_of_ble_eq_true h
    omega
  · cases h

theorem sliceV_ok [Val] (T : TOk P c) (R : Rel ng pr w0 σ s w) {ρ : Operand → Option V} {ρc : Operand → Value} (hρ : ∀ x v, ρ x = some v → VR σ v (ρc x)) {t : Nat} {x v : V} {u : Value} {lo hi mx : Option Operand}
    (h : sliceV c s ρ t x lo hi mx = some v) (hu : VR σ x u) : ∃ r, (Instr.sliceAt t u (lo.map ρc) (hi.map ρc) (mx.map ρc)).run P w = .ok r w ∧ VR σ v r := by
  unfold sliceV at h
  cases ht : c.tt.get t with
  | none => simp [ht] at h
  | some i =>
  simp only [ht] at h
  obtain ⟨info, d, z, h1, h2, h3, h4, h6, h7, h8, h9⟩ := T.at ht
  have hud := run_underlying (w := w) h2
  split at h
  case h_1 =>
    rename_i x hk
    rw [hk] at h6; have := kOf_str h6; subst this
    simp only [VR] at hu
    obtain ⟨su, rfl, rfl⟩ := hu
    cases mx with
    | some _ => simp at h
    | none =>
      simp only [] at h
      split at h
      case h_2 => cases h
      rename_i l hh hl hh'
      cases hc : (Nat.ble l hh && Nat.ble hh (nats su).length) with
      | false => simp only [hc, cond_false] at h; cases h
      | true =>
        simp only [hc, cond_true] at h
        simp only [Bool.and_eq_true, Nat.ble_eq] at hc
        split at h
        case h_2 => cases h
        rename_i r hr
        cases h
        obtain ⟨e1, _, _⟩ := sub_some hr
        rw [nats_length] at hc hh'
        have hb := bounds_ok (P := P) (w := w) hρ (lo := lo) (hi := hi) (mx := none) (isS := false) (len := su.size) (cap := su.size) (cap' := su.size) (m := su.size) rfl hh' hl hc.1 hc.2 (Nat.le_refl _) (by simp) (Nat.le_refl _) (by simp)
        refine ⟨.string (su.extract l hh), ?_, by simp only [VR]; exact ⟨_, rfl, by rw [nats_extract]; exact e1.symm⟩⟩
        simp only [Option.map_none] at hb
        simp [Instr.sliceAt, Instr.slice, hud, hb]
  case h_2 =>
    rename_i e b o len cap esz ex hk
    rw [hk] at h6; have := kOf_slice h6; subst this
    simp only [VR] at hu
    obtain ⟨a, cap', rfl, hlc, hcc, hex, hadr⟩ := hu
    cases he : c.tt.get e with
    | none => simp [he] at h
    | some ie =>
    simp only [he] at h
    split at h
    case h_2 => cases h
    rename_i m hh l hm hh' hl
    cases hc : (Nat.ble l hh && Nat.ble hh m && Nat.ble m cap && Nat.beq esz ie.size && (hi.isSome || mx.isNone)) with
    | false => simp only [hc, cond_false] at h; cases h
    | true =>
      simp only [hc, cond_true, Option.some.injEq] at h
      subst h
      simp only [Bool.and_eq_true, Nat.ble_eq, Nat.beq_eq] at hc
      obtain ⟨⟨⟨⟨c1, c2⟩, c3⟩, c4⟩, c5⟩ := hc
      subst c4
      have hb := bounds_ok (P := P) (w := w) hρ (isS := true) (cap' := cap') hm hh' hl c1 c2 c3 (by cases mx <;> cases hi <;> simp_all) hcc (by intro _; omega)
      refine ⟨.slice (if (if mx.isSome then m else cap') = l then some a else some (a.add (l * ie.size))) (hh - l) ((if mx.isSome then m else cap') - l), ?_, ?_⟩
      · simp only [Instr.sliceAt, Instr.slice, hud, Sem.run_bind, Result.andThen_ok, hb, run_size T he, Sem.run_pure, Option.map_some]
      · have hmcap : mx.isSome = false → m = cap := by
          intro hn
          cases mx with
          | none => simpa [optNat] using hm.symm
          | some _ => simp at hn
        have hM : m ≤ (if mx.isSome then m else cap') := by split <;> omega
        have hM2 : (if mx.isSome then m else cap') ≤ cap' := by split <;> omega
        generalize hMM : (if mx.isSome then m else cap') = M at hM hM2 ⊢
        have hexM : (ex || mx.isSome) = true → M = m := by
          intro hx
          cases hmx : mx.isSome with
          | true => rw [hmx] at hMM; simpa using hMM.symm
          | false =>
            rw [hmx] at hMM hx
            simp only [Bool.or_false] at hx
            have := hex hx
            have := hmcap hmx
            simp at hMM; omega
        simp only [VR]
        refine ⟨if M = l then a else a.add (l * ie.size), M - l, by split <;> rfl, by omega, by omega, fun hx => by rw [hexM hx], ?_⟩
        by_cases hml : M = l
        · left; omega
        · right
          rcases hadr with ⟨z1, z2⟩ | ⟨cb, co, ce, q1, q2, q3⟩
          · omega
          · refine ⟨cb, co, ce, q1, ?_, ?_⟩
            · rw [if_neg hml, q2, addr_add]; simp [Nat.add_assoc]
            · have : l * ie.size + (M - l) * ie.size = M * ie.size := by rw [← Nat.add_mul]; congr 1; omega
              have : M * ie.size ≤ cap' * ie.size := Nat.mul_le_mul_right _ hM2
              omega
  case h_3 =>
    rename_i e hk
    rw [hk] at h6; have := kOf_slice h6; subst this
    simp only [VR] at hu; subst hu
    cases he : c.tt.get e with
    | none => simp [he] at h
    | some ie =>
    simp only [he] at h
    split at h
    case h_2 => cases h
    rename_i hm hh hl
    cases hc : (hi.isSome || mx.isNone) with
    | false => simp [hc] at h
    | true =>
    simp only [hc, cond_true, Option.some.injEq] at h
    subst h
    have hb := bounds_ok (P := P) (w := w) hρ (isS := true) (cap' := 0) hm hh hl (Nat.le_refl _) (Nat.le_refl _) (Nat.le_refl _) (by cases mx <;> cases hi <;> simp_all) (Nat.le_refl _) (by intro _; omega)
    refine ⟨.slice none 0 0, ?_, by simp [VR]⟩
    simp only [Instr.sliceAt, Instr.slice, hud, Sem.run_bind, Result.andThen_ok, hb, run_size T he, Sem.run_pure, Option.map_none, ite_self, Nat.sub_self]
  case h_4 =>
    rename_i n e b o hk
    rw [hk] at h6; have := kOf_arr h6; subst this
    simp only [VR] at hu
    obtain ⟨cb, co, ce, hσ, rfl⟩ := hu
    cases he : c.tt.get e with
    | none => simp [he] at h
    | some ie =>
    simp only [he] at h
    split at h
    case h_2 => cases h
    rename_i m hh l hm hh' hl
    cases hc : (Nat.ble l hh && Nat.ble hh m && Nat.ble m n && Nat.blt l m && (hi.isSome || mx.isNone) && s.here b (o + n * ie.size)) with
    | false => simp only [hc, cond_false] at h; cases h
    | true =>
      simp only [hc, cond_true, Option.some.injEq] at h
      subst h
      simp only [Bool.and_eq_true, Nat.ble_eq, Nat.blt_eq] at hc
      obtain ⟨⟨⟨⟨⟨c1, c2⟩, c3⟩, c4⟩, c5⟩, c6⟩ := hc
      have hreach := here_ok R c6 hσ
      have hb := bounds_ok (P := P) (w := w) hρ (isS := false) (cap' := n) hm hh' hl c1 c2 c3 (by cases mx <;> cases hi <;> simp_all) (Nat.le_refl _) (by intro _; omega)
      have hmn : mx.isSome = false → m = n := by
        intro hn
        cases mx with
        | none => simpa [optNat] using hm.symm
        | some _ => simp at hn
      have hM : (if mx.isSome then m else n) = m := by
        cases hmx : mx.isSome with
        | true => simp
        | false => simp [hmn hmx]
      rw [hM] at hb
      refine ⟨.slice (some ⟨cb, co + o + l * ie.size, none⟩) (hh - l) (m - l), ?_, ?_⟩
      · simp only [Instr.sliceAt, hud, Sem.run_bind, Result.andThen_ok, Instr.sureAddr, Sem.run_pure, hb, run_size T he, addr_add]
        rw [if_neg (by omega)]
      · simp only [VR]
        refine ⟨_, m - l, rfl, by omega, by omega, fun _ => rfl, .inr ⟨cb, co, ce, hσ, by simp [Nat.add_assoc], ?_⟩⟩
        have : l * ie.size + (m - l) * ie.size = m * ie.size := by rw [← Nat.add_mul]; congr 1; omega
        have : m * ie.size ≤ n * ie.size := Nat.mul_le_mul_right _ c3
        omega
  case h_5 => cases h
end
end Go.Ai
