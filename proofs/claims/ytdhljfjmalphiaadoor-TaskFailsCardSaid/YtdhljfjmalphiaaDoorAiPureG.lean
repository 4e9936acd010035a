/- Every operation that leaves memory alone. -/
import Derived.Test.YtdhljfjmalphiaaDoorAiPureF
import Derived.Laws.Build
namespace Go.Ai
section
variable {P : Program} {c : Ctx} {ng : Nat} {pr : Prt} {w0 : World} {σ : Sg} {s : S} {w : World}

theorem run_value {x : Sem Value} {u : Value} {w' : World} (h : x.run P w = .ok u w') : (do pure (.value (← x)) : Sem Next).run P w = .ok (.value u) w' := by
  simp [h]

theorem capV_ok [Val] (T : TOk P c) {t ty : Nat} {x v : V} {u : Value} {ts : Array Nat} {us : Array Value} (h : capV c t x = some v) (hu : VR σ x u) (ht : ts[0]? = some t) (hus : us[0]? = some u) :
    ∃ r, (Builtin.cap_ ts ty us).run P w = .ok r w ∧ VR σ v r := by
  unfold capV at h
  split at h
  case h_2 => cases h
  rename_i i hi
  obtain ⟨info, d, z, h1, h2, h3, h4, h6, h7, h8, h9⟩ := T.at hi
  split at h
  case h_2 => cases h
  rename_i e hk
  rw [hk] at h6; have := kOf_slice h6; subst this
  unfold Builtin.cap_
  simp only [ht, hus, Sem.run_bind, run_underlying h2, Result.andThen_ok]
  split at h
  · cases h
    simp only [VR] at hu; subst hu
    exact ⟨_, by simp only [Sem.run_pure]; rfl, by simp only [VR]; rfl⟩
  · rename_i b o len cap esz ex
    cases ex with
    | false => cases h
    | true =>
      simp only [cond_true, Option.some.injEq] at h
      subst h
      simp only [VR] at hu
      obtain ⟨a, cap', rfl, h10, h11, h12, h13⟩ := hu
      have := h12 trivial
      subst this
      exact ⟨_, by simp only [Sem.run_pure]; rfl, by simp only [VR]; rfl⟩
  · cases h
theorem sliceDataV_ok [Val] {ty : Nat} {x v : V} {u : Value} {ts : Array Nat} (h : sliceDataV x = some v) (hu : VR σ x u) : ∃ r, (Builtin.unsafeSliceData_ ts ty #[u]).run P w = .ok r w ∧ VR σ v r := by
  unfold sliceDataV at h
  split at h
  · cases h
    simp only [VR] at hu; subst hu
    exact ⟨_, Lib.run_unsafeSliceData_nil w ts ty 0 0, by simp only [VR]⟩
  · rename_i b o len cap esz ex
    cases hc : Nat.beq cap 0 with
    | true => simp [hc] at h
    | false =>
      simp only [hc, cond_false, Option.some.injEq] at h
      subst h
      have hne := Nat.ne_of_beq_eq_false hc
      simp only [VR] at hu
      obtain ⟨a, cap', rfl, h10, h11, h12, h13⟩ := hu
      rcases h13 with ⟨_, z⟩ | ⟨cb, co, ce, h14, rfl, h15⟩
      · omega
      exact ⟨_, Lib.run_unsafeSliceData_row w ts ty _ _ _ (by omega), by simp only [VR]; exact ⟨cb, co, ce, h14, rfl⟩⟩
  · cases h

theorem pure0_ok [Val] (T : TOk P c) (R : Rel ng pr w0 σ s w) {ρ : Operand → Option V} {ρc : Operand → Value} (hρ : ∀ x v, ρ x = some v → VR σ v (ρc x)) {o : Oper} {v : V}
    (h : pureV0 c o.op ρ s = some v) : ∃ u, (execOp ρc o).run P w = .ok (.value u) w ∧ VR σ v u := by
  obtain ⟨dst, op, ty, pos, after, guard⟩ := o
  cases op <;> simp only [pureV0] at h <;> try (cases h; done)
  case move x => exact ⟨ρc x, rfl, hρ _ _ h⟩
  case assign x => exact ⟨ρc x, rfl, hρ _ _ h⟩
  case pick t a b =>
    split at h
    · rename_i ht
      have := hρ _ _ ht
      simp only [VR] at this
      exact ⟨ρc a, by simp [execOp, this, asBool], hρ _ _ h⟩
    · rename_i ht
      have := hρ _ _ ht
      simp only [VR] at this
      exact ⟨ρc b, by simp [execOp, this, asBool], hρ _ _ h⟩
    · cases h
  case build t ps =>
    split at h
    case h_2 => cases h
    rename_i l hl
    have hp := partsV_ok hρ hl
    obtain ⟨u, hu, hv⟩ := build_ok (P := P) (w := w) (parts := ps.map fun (i, x) => (i, ρc x)) T h (by simpa using hp)
    exact ⟨u, run_value hu, hv⟩
  case load t a =>
    split at h
    case h_2 => cases h
    rename_i b o i ha hi
    obtain ⟨u, hu, hv⟩ := load_ok T R hi (hρ _ _ ha) h
    exact ⟨u, run_value hu, hv⟩
  case nilCheck x =>
    split at h
    · rename_i b o hx
      have hx' := hρ _ _ hx
      cases h
      have := hx'
      simp only [VR] at this
      obtain ⟨cb, co, ce, hσ, hv⟩ := this
      exact ⟨ρc x, by simp [execOp, hv], hx'⟩
    · rename_i f cs hx
      have hx' := hρ _ _ hx
      cases h
      have := hx'
      simp only [VR] at this
      obtain ⟨arr, hv, _⟩ := this
      exact ⟨ρc x, by simp [execOp, hv], hx'⟩
    · cases h
  case binOp op t x y yt =>
    split at h
    case h_2 => cases h
    rename_i a b ha hb
    obtain ⟨u, hu, hv⟩ := binV_ok T R h (hρ _ _ ha) (hρ _ _ hb)
    exact ⟨u, run_value hu, hv⟩
  case unOp op t x =>
    split at h
    case h_2 => cases h
    rename_i a ha
    obtain ⟨u, hu, hv⟩ := unV_ok (P := P) (w := w) h (hρ _ _ ha)
    exact ⟨u, run_value hu, hv⟩
  case convert src dst x =>
    split at h
    case h_2 => cases h
    rename_i a ha
    obtain ⟨u, hu, hv⟩ := convV_ok T R h (hρ _ _ ha)
    exact ⟨u, run_value hu, hv⟩
  case makeInterface t x =>
    split at h
    case h_2 => cases h
    rename_i a i ha hi
    obtain ⟨info, d, z, h1, h2, h3, h4, h6, h7, h8, h9⟩ := T.at hi
    split at h
    · cases h
    · rename_i hne
      cases h
      refine ⟨.iface t (ρc x), ?_, by simp only [VR]; exact ⟨_, rfl, hρ _ _ ha⟩⟩
      refine run_value (run_makeInterface w t (ρc x) ?_)
      unfold Program.concrete
      rw [h2]
      cases d <;> simp only [] <;> simp only [kOf] at h6
      exact (hne h6.symm).elim
  case makeFunc fn first caps =>
    cases fn <;> simp only [] at h <;> try (cases h; done)
    rename_i f
    split at h
    case h_2 => cases h
    rename_i hf
    split at h
    case h_2 => cases h
    rename_i vs hvs
    cases h
    have hf' : first = #[] := by simpa using hf
    subst hf'
    have := evs_ok hρ hvs
    refine ⟨.func (.func f) #[] (caps.map ρc), ?_, by simp only [VR]; exact ⟨_, rfl, by simpa using this⟩⟩
    simp [execOp, Instr.makeFunc]
  case slice t x lo hi mx =>
    split at h
    case h_2 => cases h
    rename_i a ha
    obtain ⟨u, hu, hv⟩ := sliceV_ok T R hρ h (hρ _ _ ha)
    exact ⟨u, run_value hu, hv⟩
  case fieldAddr t x f =>
    split at h
    case h_2 => cases h
    rename_i b o i hx hi
    obtain ⟨info, d, z, h1, h2, h3, h4, h6, h7, h8, h9⟩ := T.at hi
    split at h
    case h_2 => cases h
    rename_i fs hk
    rw [hk] at h6; obtain ⟨fields, rfl, hfk⟩ := kOf_struct h6
    split at h
    case h_2 => cases h
    rename_i off fty size bl hn
    cases hz : Nat.beq size 0 with
    | true => simp [hz] at h
    | false =>
      simp only [hz, cond_false, Option.some.injEq] at h; subst h
      have hz' := Nat.ne_of_beq_eq_false hz
      rw [nth_eq] at hn
      obtain ⟨fd, info', g1, g2, g3, g4, g5, _⟩ := (fieldsK_get hfk).2 _ _ _ _ _ hn
      have hx' := hρ _ _ hx
      simp only [VR] at hx'
      obtain ⟨cb, co, ce, hσ, hv⟩ := hx'
      refine ⟨.pointer (some ⟨cb, co + (o + off), none⟩), ?_, by simp only [VR]; exact ⟨_, _, _, hσ, rfl⟩⟩
      have g1' : fields[f]? = some fd := by simpa using g1
      refine run_value ?_
      simp only [Instr.fieldAt, Sem.run_bind, run_underlying h2, Result.andThen_ok, g1', hv, Instr.sureAddr, Sem.run_pure, fieldPlace, run_sizeOf g4, g5, Sem.run_ite]
      rw [if_neg hz', addr_add, g2]
      simp [Nat.add_assoc]
  case field t x f =>
    split at h
    case h_2 => cases h
    rename_i cs i hx hi
    obtain ⟨info, d, z, h1, h2, h3, h4, h6, h7, h8, h9⟩ := T.at hi
    split at h
    case h_2 => cases h
    rename_i fs hk
    rw [hk] at h6; obtain ⟨fields, rfl, hfk⟩ := kOf_struct h6
    split at h
    case h_2 => cases h
    rename_i off fty size bl hn
    rw [nth_eq] at hn
    obtain ⟨fd, info', g1, g2, g3, g4, g5, _⟩ := (fieldsK_get hfk).2 _ _ _ _ _ hn
    have hx' := hρ _ _ hx
    simp only [VR] at hx'
    obtain ⟨arr, hv, hr⟩ := hx'
    obtain ⟨u, hu, hvr⟩ := part_ok (P := P) (w := w) T h hr
    have g1' : fields[f]? = some fd := by simpa using g1
    refine ⟨u, run_value ?_, hvr⟩
    simp only [Instr.field, Sem.run_bind, run_underlying h2, Result.andThen_ok, g1', hv, asAgg, Sem.run_pure, g2, g3, hu]
  case indexAddr t x ix =>
    split at h
    case h_2 => cases h
    rename_i xv k n i hx hix hi
    obtain ⟨info, d, z, h1, h2, h3, h4, h6, h7, h8, h9⟩ := T.at hi
    have hix' := hρ _ _ hix
    simp only [VR] at hix'
    have hx' := hρ _ _ hx
    split at h
    · rename_i len e b o hk
      rw [hk] at h6; have := kOf_arr h6; subst this
      simp only [VR] at hx'
      obtain ⟨cb, co, ce, hσ, hv⟩ := hx'
      cases he : c.tt.get e with
      | none => simp [he] at h
      | some ie =>
        simp only [he] at h
        cases hlt : Nat.blt n len with
        | false => simp [hlt] at h
        | true =>
          simp only [hlt, cond_true, Option.some.injEq] at h; subst h
          rw [Nat.blt_eq] at hlt
          refine ⟨.pointer (some ⟨cb, co + (o + n * ie.size), none⟩), run_value ?_, by simp only [VR]; exact ⟨_, _, _, hσ, rfl⟩⟩
          simp only [Instr.indexAt, hix', asIntOf, Sem.run_bind, Sem.run_pure, Result.andThen_ok, run_underlying h2, hv, Instr.sureAddr, Sem.run_ite, run_size T he, Int.ofNat_eq_natCast, Int.toNat_natCast, addr_add]
          rw [if_pos (by omega)]
          simp [Nat.add_assoc]
    · rename_i e b o len cap esz ex hk
      rw [hk] at h6; have := kOf_slice h6; subst this
      simp only [VR] at hx'
      obtain ⟨a, cap', hv, hlc, hcc, hex, hadr⟩ := hx'
      cases he : c.tt.get e with
      | none => simp [he] at h
      | some ie =>
        simp only [he] at h
        cases hlt : (Nat.blt n len && Nat.beq esz ie.size) with
        | false => simp only [hlt, cond_false] at h; cases h
        | true =>
          simp only [hlt, cond_true, Option.some.injEq] at h; subst h
          simp only [Bool.and_eq_true, Nat.blt_eq, Nat.beq_eq] at hlt
          obtain ⟨hlt, rfl⟩ := hlt
          rcases hadr with ⟨z1, _⟩ | ⟨cb, co, ce, q1, rfl, q3⟩
          · omega
          refine ⟨.pointer (some ⟨cb, co + (o + n * ie.size), none⟩), run_value ?_, by simp only [VR]; exact ⟨_, _, _, q1, rfl⟩⟩
          simp only [Instr.indexAt, hix', asIntOf, Sem.run_bind, Sem.run_pure, Result.andThen_ok, run_underlying h2, hv, Sem.run_ite, run_size T he, Int.ofNat_eq_natCast, Int.toNat_natCast, addr_add]
          rw [if_pos (by omega)]
          simp [Nat.add_assoc]
    · cases h
  case index t x ix =>
    split at h
    case h_2 => cases h
    rename_i xv k n i hx hix hi
    obtain ⟨info, d, z, h1, h2, h3, h4, h6, h7, h8, h9⟩ := T.at hi
    have hix' := hρ _ _ hix
    simp only [VR] at hix'
    have hx' := hρ _ _ hx
    split at h
    · rename_i len e cs hk
      rw [hk] at h6; have := kOf_arr h6; subst this
      simp only [VR] at hx'
      obtain ⟨arr, hv, hr⟩ := hx'
      cases he : c.tt.get e with
      | none => simp [he] at h
      | some ie =>
        simp only [he] at h
        cases hlt : Nat.blt n len with
        | false => simp [hlt] at h
        | true =>
          simp only [hlt, cond_true] at h
          rw [Nat.blt_eq] at hlt
          obtain ⟨u, hu, hvr⟩ := part_ok (P := P) (w := w) T h hr
          refine ⟨u, run_value ?_, hvr⟩
          simp only [Instr.index, hix', asIntOf, Sem.run_bind, Sem.run_pure, Result.andThen_ok, run_underlying h2, hv, Sem.run_ite, run_size T he, Int.ofNat_eq_natCast, Int.toNat_natCast]
          rw [if_pos (by omega)]
          exact hu
    · rename_i l hk
      rw [hk] at h6; have := kOf_str h6; subst this
      simp only [VR] at hx'
      obtain ⟨su, hv, rfl⟩ := hx'
      split at h
      case h_2 => cases h
      rename_i m hm
      cases h
      rw [nth_eq] at hm
      obtain ⟨b, hb, hbm⟩ : ∃ b, su.data.toList[n]? = some b ∧ b.toNat = m := by
        simpa [nats, List.getElem?_map] using hm
      have hlt : n < su.size := by
        rcases Nat.lt_or_ge n su.data.toList.length with h' | h'
        · simpa using h'
        · simp [List.getElem?_eq_none h'] at hb
      have hb' : su[n]? = some b := by
        rw [getElem?_pos su n hlt]
        have : su.data.toList[n]? = some su.data[n] := by simp
        rw [this] at hb
        exact hb
      refine ⟨.int .u8 (b.toNat : Int), run_value ?_, by simp only [VR]; rw [hbm]⟩
      simp only [Instr.index, hix', asIntOf, Sem.run_bind, Sem.run_pure, Result.andThen_ok, run_underlying h2, hv, Int.ofNat_eq_natCast, Int.toNat_natCast]
      rw [if_pos (by omega), hb']
      rfl
    · cases h
  case lookup t m k ok =>
    split at h
    case h_2 => cases h
    rename_i a b ha hb
    obtain ⟨u, hu, hv⟩ := lookupV_ok T R h (hρ _ _ ha) (hρ _ _ hb)
    exact ⟨u, run_value hu, hv⟩
  case extract x i =>
    split at h
    case h_2 => cases h
    rename_i vs hx
    have hx' := hρ _ _ hx
    simp only [VR] at hx'
    obtain ⟨arr, hv, hr⟩ := hx'
    rw [nth_eq] at h
    obtain ⟨u, hu, hvr⟩ := hr.get h
    have hu' : arr[i]? = some u := by simpa using hu
    exact ⟨u, run_value (by simp [Instr.extract, hv, hu']), hvr⟩
  case call cl =>
    obtain ⟨callee, args, argTypes⟩ := cl
    cases callee <;> simp only [] at h <;> try (cases h; done)
    rename_i b
    cases b <;> simp only [] at h <;> try (cases h; done)
    case len =>
      split at h
      case h_2 => cases h
      rename_i x l t ts hx ht
      have hx' := evs_ok hρ hx
      simp only [VRs] at hx'
      obtain ⟨u, us, h1, h2, h3⟩ := hx'
      have ht' : argTypes[0]? = some t := by rw [← Array.getElem?_toList, ht]; rfl
      have hu' : (args.map ρc)[0]? = some u := by rw [← Array.getElem?_toList, Array.toList_map, h1]; rfl
      obtain ⟨r, hr, hv⟩ := lenV_ok (ty := ty) T R h h2 ht' hu'
      exact ⟨r, by simp [execOp, resolve, invoke, builtin, hr], hv⟩
    case cap =>
      split at h
      case h_2 => cases h
      rename_i x t ts hx ht
      have hx' := evs_ok hρ hx
      simp only [VRs] at hx'
      obtain ⟨u, us, h1, h2, rfl⟩ := hx'
      have ht' : argTypes[0]? = some t := by rw [← Array.getElem?_toList, ht]; rfl
      have hu' : (args.map ρc)[0]? = some u := by rw [← Array.getElem?_toList, Array.toList_map, h1]; rfl
      obtain ⟨r, hr, hv⟩ := capV_ok (P := P) (w := w) (ty := ty) T h h2 ht' hu'
      exact ⟨r, by simp [execOp, resolve, invoke, builtin, hr], hv⟩
    case unsafeSliceData =>
      split at h
      case h_2 => cases h
      rename_i x hx
      have hx' := evs_ok hρ hx
      simp only [VRs] at hx'
      obtain ⟨u, us, h1, h2, rfl⟩ := hx'
      have hu' : args.map ρc = #[u] := by apply Array.ext'; simpa using h1
      obtain ⟨r, hr, hv⟩ := sliceDataV_ok (P := P) (w := w) (ts := argTypes) (ty := ty) h h2
      exact ⟨r, by simp [execOp, resolve, invoke, builtin, hu', hr], hv⟩
    case max =>
      split at h
      case h_2 => cases h
      rename_i x l hx
      have hx' := evs_ok hρ hx
      simp only [VRs] at hx'
      obtain ⟨u, us, h1, h2, h3⟩ := hx'
      obtain ⟨r, hr, hv⟩ := minmax_ok (P := P) (w := w) h h2 h3
      refine ⟨r, ?_, hv⟩
      have : (Builtin.max_ argTypes ty (args.map ρc)).run P w = .ok r w := by
        unfold Builtin.max_
        rw [Array.toList_map, h1]
        simpa using hr
      simp [execOp, resolve, invoke, builtin, this]
    case min =>
      split at h
      case h_2 => cases h
      rename_i x l hx
      have hx' := evs_ok hρ hx
      simp only [VRs] at hx'
      obtain ⟨u, us, h1, h2, h3⟩ := hx'
      obtain ⟨r, hr, hv⟩ := minmax_ok (P := P) (w := w) h h2 h3
      refine ⟨r, ?_, hv⟩
      have : (Builtin.min_ argTypes ty (args.map ρc)).run P w = .ok r w := by
        unfold Builtin.min_
        rw [Array.toList_map, h1]
        simpa using hr
      simp [execOp, resolve, invoke, builtin, this]
theorem pure_ok [Val] (T : TOk P c) (R : Rel ng pr w0 σ s w) {ρ : Operand → Option V} {ρc : Operand → Value} (hρ : ∀ x v, ρ x = some v → VR σ v (ρc x)) {o : Oper} {v : V}
    (h : pureV c o.op ρ s = some v) : ∃ u, (execOp ρc o).run P w = .ok (.value u) w ∧ VR σ v u := by
  unfold pureV at h
  split at h
  · rename_i v' hv
    cases h
    exact pure0_ok T R hρ hv
  · split at h
    case h_2 => cases h
    rename_i args ha
    exact T.orc o args v h σ w ρc (evs_ok hρ ha)
end
end Go.Ai
