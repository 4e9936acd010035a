/- The evaluator's append is the model's. -/
import Derived.Test.YtdhljfjmalphiaaDoorAiEff
namespace Go.Ai
section
variable {P : Program} {c : Ctx} {ng : Nat} {pr : Prt} {w0 : World} {σ : Sg} {s : S} {w : World}

theorem appendV_ok [Val] (T : TOk P c) (R : Rel ng pr w0 σ s w) {t ty rt : Nat} {iy : TI} {x y v : V} {s' : S} {u u' : Value} (h : appendV c s t x y = some (v, s')) (hx : VR σ x u) (hy : VR σ y u')
    (hty : c.tt.get ty = some iy) (hni : ∀ k, iy.k ≠ .int k) :
    ∃ cv w' σ', (Builtin.append_ #[t, ty] rt #[u, u']).run P w = .ok cv w' ∧ VR σ' v cv ∧ Rel ng pr w0 σ' s' w' ∧ Ext σ σ' := by
  unfold appendV at h
  cases ht : c.tt.get t with
  | none => simp [ht] at h
  | some i =>
  simp only [ht] at h
  obtain ⟨info, d, z, h1, h2, h3, h4, h6, h7, h8, h9⟩ := T.at ht
  split at h
  case h_2 => cases h
  rename_i e hk
  rw [hk] at h6; have := kOf_slice h6; subst this
  cases he : c.tt.get e with
  | none => simp [he] at h
  | some ie =>
  simp only [he] at h
  cases hnc : newCells s ie.size y with
  | none => simp [hnc] at h
  | some p =>
  obtain ⟨new, n⟩ := p
  simp only [hnc] at h
  obtain ⟨hlen, arr, hfc, hnr, hsz⟩ := newCells_ok (P := P) R hnc hy
  obtain ⟨_, arr2, hfc2, hnr2, hsz2⟩ := newCells_ok (P := P) R.drew hnc hy
  have hnl := hnr.length
  have hnl2 := hnr2.length
  simp only [Array.length_toList] at hnl hnl2
  split at h
  · -- nil
    simp only [VR] at hx; subst hx
    split at h
    · rename_i hn0
      have hn0 := Nat.eq_of_beq_eq_true hn0
      subst hn0
      cases h
      refine ⟨.slice none 0 0, w, σ, append_in T rfl rfl h2 he hty hni hlen rt (Nat.le_refl _) hfc (by intro a h; cases h) (fun _ => rfl), by simp [VR], R, Ext.refl σ⟩
    · rename_i hn0
      have hn0 := Nat.ne_of_beq_eq_false hn0
      cases hb : Nat.ble ((2 * n + 1024) * (ie.bytes + 1)) 140737488355328 with
      | false => simp only [hb, cond_false] at h; cases h
      | true =>
        simp only [hb, cond_true, Option.some.injEq, Prod.mk.injEq] at h
        obtain ⟨rfl, rfl⟩ := h
        rw [Nat.ble_eq] at hb
        have hn0' : 0 < n := Nat.pos_of_ne_zero fun e => hn0 e
        obtain ⟨newCap, rest, q1, q2, q3⟩ := append_grow (base := none) (sLen := 0) (sCap := 0) (old := #[]) T rfl rfl h2 he hty hni hlen rt (by omega) (by simpa using hb) hfc2 (by rfl)
        have hcs : (#[] ++ arr2 ++ rest : Array Value).size = newCap * ie.size := by
          simp only [Array.size_append, hsz2, q2, Array.size_empty, Nat.zero_add, ← Nat.add_mul]
          congr 1; omega
        refine ⟨_, _, (fun j => if j = s.next then some (w.heap.size, 0, newCap * ie.size) else σ j), q3, ?_, R.newBlock rfl rfl ⟨rfl, rfl, rfl⟩ ?_, Ext.set (R.fresh _ (Nat.le_refl _))⟩
        · simp only [VR]
          exact ⟨_, newCap, by simp, Nat.le_refl _, by omega, (fun h => by cases h), Or.inr ⟨w.heap.size, 0, newCap * ie.size, by simp, rfl, by simp⟩⟩
        · refine ⟨w.heap.size, 0, newCap * ie.size, #[] ++ arr2 ++ rest, e, (0, 0), by simp, by simp only [Array.getElem?_push_size], ?_, by omega, fun i x hi => ?_, fun _ => ⟨.inl rfl, fun _ => rfl, fun t wh h => by cases h; exact ⟨rfl, fun h => by cases h⟩⟩⟩
          · rw [Nat.zero_add, hnl2, hsz2]; exact Nat.mul_le_mul_right _ (by omega)
          · obtain ⟨yv, hyv, hr⟩ := hnr2.get hi
            refine ⟨yv, ?_, VR.mono (Ext.set (R.fresh _ (Nat.le_refl _))) _ _ hr⟩
            have hlt : i < arr2.size := by
              rcases Nat.lt_or_ge i new.length with h' | h'
              · omega
              · simp [List.getElem?_eq_none h'] at hi
            rw [Nat.zero_add, Array.getElem?_append_left (by simp; omega), Array.getElem?_append_right (by simp)]
            simpa using hyv
  · -- a slice
    rename_i b o len cap esz ex
    have hx0 := hx
    simp only [VR] at hx
    obtain ⟨a, cap', rfl, hlc, hcc, hex, hadr⟩ := hx
    split at h
    · rename_i hn0
      have hn0 := Nat.eq_of_beq_eq_true hn0
      subst hn0
      cases h
      refine ⟨.slice (some a) (len + 0) cap', w, σ, append_in T rfl rfl h2 he hty hni hlen rt (by omega) hfc (fun a' ha => ?_) (by intro h; cases h), hx0, R, Ext.refl σ⟩
      have : arr = #[] := by apply Array.eq_empty_of_size_eq_zero; simpa using hsz
      subst this; rfl
    · rename_i hn0
      have hn0 := Nat.ne_of_beq_eq_false hn0
      have hn0' : 0 < n := Nat.pos_of_ne_zero fun e => hn0 e
      split at h
      · -- there is room
        rename_i hroom
        rw [Nat.ble_eq] at hroom
        split at h
        case h_2 =>
          split at h
          case h_2 => cases h
          rename_i sb cs hget
          cases hcond : (Nat.beq esz ie.size && allScalar new && Nat.beq cs.length (o + len * ie.size)) with
          | false => simp [hcond] at h
          | true =>
          simp only [hcond, cond_true, Option.some.injEq, Prod.mk.injEq] at h
          obtain ⟨rfl, rfl⟩ := h
          simp only [Bool.and_eq_true, Nat.beq_eq] at hcond
          obtain ⟨⟨rfl, hscal⟩, hcsl⟩ := hcond
          rcases hadr with ⟨z1, z2⟩ | ⟨cb, co, ce, g1, rfl, g3⟩
          · omega
          obtain ⟨_, _, _, cc, el, fr, b1, b2, b3, b4, b5, b6⟩ := R.obj b _ hget
          rw [g1] at b1; cases b1
          have hbig : o + len * ie.size + n * ie.size ≤ o + cap' * ie.size := by
            rw [Nat.add_assoc, ← Nat.add_mul]; exact Nat.add_le_add_left (Nat.mul_le_mul_right _ (by omega)) _
          have hsz' : co + cs.length + arr.toList.length ≤ cc.size := by simp only [Array.length_toList, hsz]; omega
          have hw := wrote_setCells cb arr.toList (co + cs.length) w
          have hrun : (storeCells ⟨cb, co + cs.length, none⟩ arr.toList).run P w = .ok () (w.setCells cb (co + cs.length) arr.toList) :=
            run_storeCells_at b2 hsz' (b6 rfl).1 (VRs.oneCell hnr hscal)
          refine ⟨.slice (some ⟨cb, co + o, none⟩) (len + n) cap', w.setCells cb (co + cs.length) arr.toList, σ, append_in T rfl rfl h2 he hty hni hlen rt (by omega) hfc (fun a' ha => ?_) (by intro h; cases h), ?_, ?_, Ext.refl σ⟩
          · cases ha
            rw [addr_add, Nat.add_assoc, ← hcsl]; exact hrun
          · simp only [VR]
            exact ⟨_, cap', rfl, hroom, hcc, hex, .inr ⟨cb, co, ce, g1, rfl, g3⟩⟩
          · refine R.rewrite hget g1 hw (by simp only [Array.length_toList, hsz]; omega) ?_
            obtain ⟨c2, w1, w2, w3⟩ := hw.here _ _ _ b2 hsz'
            refine ⟨cb, co, ce, c2, el, fr, g1, w1, ?_, by omega, fun i x hi => ?_, by rw [w2, Tg.part_str]; exact fun h => ⟨(b6 h).1, (b6 h).2.1, fun t wh hh => by obtain ⟨rfl, w', e'⟩ := Tg.part_el hh; exact ⟨((b6 h).2.2 t w' e').1, fun h => by cases h⟩⟩⟩
            · rw [List.length_append, hnl, hsz]; omega
            · rcases Nat.lt_or_ge i cs.length with hlt | hge
              · rw [List.getElem?_append_left hlt] at hi
                obtain ⟨yv, hyv, hr⟩ := b5 i x hi
                exact ⟨yv, by rw [w3, if_neg (by omega)]; exact hyv, hr⟩
              · rw [List.getElem?_append_right hge] at hi
                obtain ⟨yv, hyv, hr⟩ := hnr.get hi
                refine ⟨yv, ?_, hr⟩
                have hil : i - cs.length < arr.toList.length := by
                  rcases Nat.lt_or_ge (i - cs.length) arr.toList.length with h' | h'
                  · exact h'
                  · simp [List.getElem?_eq_none h'] at hyv
                rw [w3, if_pos (by omega), show co + i - (co + cs.length) = i - cs.length by omega]
                exact hyv
        rename_i s1 hput
        cases h
        rcases hadr with ⟨z1, z2⟩ | ⟨cb, co, ce, g1, rfl, g3⟩
        · omega
        obtain ⟨w', hw', R'⟩ := R.put hput hnr g1
        refine ⟨.slice (some ⟨cb, co + o, none⟩) (len + n) cap', w', σ, append_in T rfl rfl h2 he hty hni hlen rt (by omega) hfc (fun a' ha => ?_) (by intro h; cases h), ?_, R', Ext.refl σ⟩
        · cases ha
          rw [addr_add, Nat.add_assoc]; exact hw' P
        · simp only [VR]
          exact ⟨_, cap', rfl, hroom, hcc, hex, .inr ⟨cb, co, ce, g1, rfl, g3⟩⟩
      · rename_i hnr0
        have hnroom : cap < len + n := by
          rcases Nat.lt_or_ge cap (len + n) with h' | h'
          · exact h'
          · rw [Nat.ble_eq_true_of_le h'] at hnr0; cases hnr0
        cases hb : (Nat.beq esz ie.size && Nat.ble ((2 * (len + n) + 1024) * (ie.bytes + 1)) 140737488355328) with
        | false => simp only [hb, cond_false] at h; cases h
        | true =>
        simp only [hb, cond_true] at h
        simp only [Bool.and_eq_true, Nat.beq_eq, Nat.ble_eq] at hb
        obtain ⟨rfl, hb⟩ := hb
        split at h
        case h_2 => cases h
        rename_i rw0 sb cs hget
        split at h
        case h_2 => cases h
        rename_i old hold
        obtain ⟨cb, co, ce, cc, el, fr, b1, b2, b3, b4, b5, b6⟩ := R.obj b _ hget
        -- the elder cells
        have oldc : ∀ w' : World, w'.heap = w.heap → ∃ oarr : Array Value, (Builtin.firstCells ie.size len (.slice (some a) len cap')).run P w' = .ok oarr w' ∧ VRs σ old oarr.toList ∧ oarr.size = len * ie.size := by
          intro w' hw'
          have R' : Rel ng pr w' σ s w' := ⟨fun b o h => (R.obj b o h).same fun _ _ _ _ => by rw [hw'], R.disj, R.fresh, fun cb hp => ⟨by rw [hw']; exact (R.prot cb hp).1, rfl⟩, R.away, R.glob, ⟨rfl, rfl, rfl, Nat.le_refl _⟩, R.ro, fun cb h => Nat.lt_of_lt_of_le (R.rolt cb h) (by rw [hw']; exact R.same.2.2.2)⟩
          rcases Nat.eq_zero_or_pos len with h0 | h0
          · subst h0
            have : old = [] := by
              obtain ⟨q1, q2, _⟩ := sub_some hold
              simpa using q2
            subst this
            exact ⟨#[], by simp [Builtin.firstCells, loadCells, loadCellsFrom], by simp [VRs], by simp⟩
          · rcases hadr with ⟨z1, z2⟩ | ⟨cb2, co2, ce2, g1, rfl, g3⟩
            · omega
            have hca : s.cellsAt b o (len * ie.size) = some old := by simp [S.cellsAt, hget, hold]
            obtain ⟨xs, hx, hr, hl⟩ := R'.cells hca g1
            exact ⟨xs.toArray, by simp only [Builtin.firstCells]; exact hl P, by simpa using hr, by simpa using hx⟩
        have grow : cap' < len + n → ∀ (sb' : Tg), (∀ t wh, sb' = .el t wh → t = e ∧ wh = false) → ∃ cv w' σ', (Builtin.append_ #[t, ty] rt #[.slice (some a) len cap', u']).run P w = .ok cv w' ∧ VR σ' (.sl s.next 0 (len + n) (len + n) ie.size false) cv ∧
            Ext σ σ' ∧ (∀ s1 : S, s1.next = s.next → Rel ng pr w0 σ s1 w → Rel ng pr w0 σ' (s1.new (.cells true sb' (old ++ new))) w') := by
          intro hroom sb' hsb
          obtain ⟨oarr, o1, o2, o3⟩ := oldc { w with drawn := w.drawn + 1 } rfl
          obtain ⟨newCap, rest, q1, q2, q3⟩ := append_grow (base := some a) (sLen := len) (sCap := cap') T rfl rfl h2 he hty hni hlen rt hroom hb hfc2 o1
          have hol := o2.length
          simp only [Array.length_toList] at hol
          have hcs : (oarr ++ arr2 ++ rest : Array Value).size = newCap * ie.size := by
            simp only [Array.size_append, o3, hsz2, q2, ← Nat.add_mul]
            congr 1; omega
          refine ⟨_, _, (fun j => if j = s.next then some (w.heap.size, 0, newCap * ie.size) else σ j), q3, ?_, Ext.set (R.fresh _ (Nat.le_refl _)), fun s1 hs1 R1 => ?_⟩
          · simp only [VR]
            exact ⟨_, newCap, by simp, Nat.le_refl _, by omega, (fun h => by cases h), Or.inr ⟨w.heap.size, 0, newCap * ie.size, by simp, rfl, by simp⟩⟩
          · rw [← hs1]
            refine R1.newBlock rfl rfl ⟨rfl, rfl, rfl⟩ ?_
            refine ⟨w.heap.size, 0, newCap * ie.size, oarr ++ arr2 ++ rest, e, (0, 0), by simp, by simp only [Array.getElem?_push_size], ?_, by omega, fun i x hi => ?_, fun _ => ⟨.inl rfl, fun _ => rfl, fun t wh h => by obtain ⟨rfl, rfl⟩ := hsb t wh h; exact ⟨rfl, fun h => by cases h⟩⟩⟩
            · rw [Nat.zero_add, List.length_append, hol, hnl2, o3, hsz2, ← Nat.add_mul]; exact Nat.mul_le_mul_right _ (by omega)
            · have hr2 := VRs.append o2 hnr2
              obtain ⟨yv, hyv, hr⟩ := hr2.get hi
              refine ⟨yv, ?_, VR.mono (Ext.set (R1.fresh _ (Nat.le_refl _))) _ _ hr⟩
              have hlt : i < (oarr ++ arr2).size := by
                rcases Nat.lt_or_ge i (old ++ new).length with h' | h'
                · simp only [List.length_append] at h'; simp only [Array.size_append]; omega
                · simp [List.getElem?_eq_none h'] at hi
              rw [Nat.zero_add, Array.getElem?_append_left hlt]
              rw [← Array.getElem?_toList, Array.toList_append]
              exact hyv
        cases hex' : ex with
        | true =>
          simp only [hex', Option.some.injEq, Prod.mk.injEq] at h
          obtain ⟨rfl, rfl⟩ := h
          have hcap := hex hex'
          obtain ⟨cv, w', σ', r1, r2, r3, r4⟩ := grow (by omega) (.el e false) (fun t wh h => by cases h; exact ⟨rfl, rfl⟩)
          exact ⟨cv, w', σ', r1, r2, r4 s rfl R, r3⟩
        | false =>
          simp only [hex'] at h
          cases hrw : (rw0 && allScalar new) with
          | false => simp only [hrw, cond_false] at h; cases h
          | true =>
          simp only [hrw, cond_true, Option.some.injEq, Prod.mk.injEq] at h
          obtain ⟨rfl, rfl⟩ := h
          simp only [Bool.and_eq_true] at hrw
          obtain ⟨rfl, hscal⟩ := hrw
          rcases Nat.lt_or_ge cap' (len + n) with hroom | hroom
          · obtain ⟨cv, w', σ', r1, r2, r3, r4⟩ := grow hroom (sb.grown e) (fun t wh h => ⟨(Tg.grown_el h).1, (Tg.grown_el h).2.1⟩)
            exact ⟨cv, w', σ', r1, r2, r4 { s with h := s.h.del b } rfl (R.del b), r3⟩
          · -- it grows in place
            rcases hadr with ⟨z1, z2⟩ | ⟨cb2, co2, ce2, g1, rfl, g3⟩
            · omega
            rw [b1] at g1; cases g1
            obtain ⟨oarr, o1, o2, o3⟩ := oldc w rfl
            have hbig : o + len * ie.size + n * ie.size ≤ o + cap' * ie.size := by
              rw [Nat.add_assoc, ← Nat.add_mul]; exact Nat.add_le_add_left (Nat.mul_le_mul_right _ hroom) _
            have hsz' : co + o + len * ie.size + arr.toList.length ≤ cc.size := by simp only [Array.length_toList, hsz]; omega
            have hw := wrote_setCells cb arr.toList (co + o + len * ie.size) w
            have hrun : (storeCells ⟨cb, co + o + len * ie.size, none⟩ arr.toList).run P w = .ok () (w.setCells cb (co + o + len * ie.size) arr.toList) :=
              run_storeCells_at b2 hsz' (b6 rfl).1 (VRs.oneCell hnr hscal)
            have hold2 := sub_some hold
            refine ⟨.slice (some ⟨cb, co + o, none⟩) (len + n) cap', w.setCells cb (co + o + len * ie.size) arr.toList, (fun j => if j = s.next then some (cb, co + o, co + o + cap' * ie.size) else σ j),
              append_in T rfl rfl h2 he hty hni hlen rt hroom hfc (fun a' ha => ?_) (by intro h; cases h), ?_, ?_, Ext.set (R.fresh _ (Nat.le_refl _))⟩
            · cases ha
              rw [addr_add]; exact hrun
            · simp only [VR]
              exact ⟨_, cap', rfl, Nat.le_refl _, hroom, (fun h => by cases h), Or.inr ⟨cb, co + o, co + o + cap' * ie.size, by simp, rfl, by simp⟩⟩
            · refine R.regrow hget b1 hw (by simp only [Array.length_toList, hsz]; omega) ?_
              obtain ⟨c2, w1, w2, w3⟩ := hw.here _ _ _ b2 hsz'
              refine ⟨cb, co + o, co + o + cap' * ie.size, c2, el, fr, by simp, w1, ?_, by omega, fun i x hi => ?_, by rw [w2, Tg.grown_str]; exact fun h => ⟨(b6 h).1, (b6 h).2.1, fun t wh hh => by obtain ⟨_, rfl, w', e'⟩ := Tg.grown_el hh; exact ⟨((b6 h).2.2 t w' e').1, fun h => by cases h⟩⟩⟩
              · rw [List.length_append, hold2.2.1, hnl, hsz]; omega
              · rcases Nat.lt_or_ge i old.length with hlt | hge
                · rw [List.getElem?_append_left hlt] at hi
                  rw [sub_get hold i (by omega)] at hi
                  obtain ⟨yv, hyv, hr⟩ := b5 (o + i) x hi
                  refine ⟨yv, ?_, VR.mono (Ext.set (R.fresh _ (Nat.le_refl _))) _ _ hr⟩
                  rw [w3, if_neg (by omega), Nat.add_assoc]
                  exact hyv
                · rw [List.getElem?_append_right hge] at hi
                  obtain ⟨yv, hyv, hr⟩ := hnr.get hi
                  refine ⟨yv, ?_, VR.mono (Ext.set (R.fresh _ (Nat.le_refl _))) _ _ hr⟩
                  have hil : i - old.length < arr.toList.length := by
                    rcases Nat.lt_or_ge (i - old.length) arr.toList.length with h' | h'
                    · exact h'
                    · simp [List.getElem?_eq_none h'] at hyv
                  rw [w3, if_pos (by omega), show co + o + i - (co + o + len * ie.size) = i - old.length by omega]
                  exact hyv
  · cases h
end
end Go.Ai
