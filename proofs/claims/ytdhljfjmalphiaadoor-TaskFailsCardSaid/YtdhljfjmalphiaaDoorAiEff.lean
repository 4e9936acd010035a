/- Operations that write: stores, maps, append, copy, clear. -/
import Derived.Test.YtdhljfjmalphiaaDoorAiAlloc
namespace Go.Ai
section
variable {P : Program} {c : Ctx} {ng : Nat} {pr : Prt} {w0 : World} {σ : Sg} {s : S} {w : World}

theorem Rel.del [Val] (R : Rel ng pr w0 σ s w) (b : Nat) : Rel ng pr w0 σ { s with h := s.h.del b } w := by
  have sub : ∀ b' o, (s.h.del b).get b' = some o → s.h.get b' = some o := by
    intro b' o h
    rw [T.get_del] at h
    split at h
    · cases h
    · exact h
  exact ⟨fun b' o h => R.obj b' o (sub b' o h), fun b1 b2 o1 o2 cb co1 ce1 co2 ce2 hne h1 h2 => R.disj b1 b2 o1 o2 cb co1 ce1 co2 ce2 hne (sub _ _ h1) (sub _ _ h2), R.fresh, R.prot,
    fun b' o cb co ce h => R.away b' o cb co ce (sub _ _ h), R.glob, R.same, fun b' o cb co ce h => R.ro b' o cb co ce (sub _ _ h), R.rolt⟩
theorem Rel.drew [Val] (R : Rel ng pr w0 σ s w) : Rel ng pr w0 σ s { w with drawn := w.drawn + 1 } := by
  exact ⟨fun b o h => (R.obj b o h).same fun _ _ _ _ => rfl, R.disj, R.fresh, R.prot, R.away, R.glob, R.same, R.ro, R.rolt⟩

/-- A block of a map is set. -/
theorem Rel.setMap [Val] (R : Rel ng pr w0 σ s w) {b cb co ce : Nat} {es es' : List (V × V)} {ces : Array MapEntry} {clock : Nat} (hb : s.h.get b = some (.map es)) (hσ : σ b = some (cb, co, ce)) (he : EntR σ es' ces.toList) :
    Rel ng pr w0 σ { s with h := s.h.set b (.map es') } { w with heap := w.heap.setIfInBounds cb (.map ces clock) } := by
  obtain ⟨cb', ces0, clock0, g1, g2, g3⟩ := R.obj b _ hb
  rw [hσ] at g1; cases g1
  have hlt : cb < w.heap.size := by
    rcases Nat.lt_or_ge cb w.heap.size with h' | h'
    · exact h'
    · simp [Array.getElem?_eq_none h'] at g2
  have hother : ∀ x, x ≠ cb → (w.heap.setIfInBounds cb (.map ces clock))[x]? = w.heap[x]? := fun x hx => Array.getElem?_setIfInBounds_ne (Ne.symm hx)
  refine ⟨?_, ?_, R.fresh, ?_, ?_, R.glob, ?_, fun b' o' cb' co' ce' hg hrw hs => ?_, R.rolt⟩
  · intro b' o' h
    simp only [T.get_set] at h
    by_cases e : b' = b
    · subst e; rw [if_pos rfl] at h; cases h
      exact ⟨cb, ces, clock, hσ, by simp [hlt], he⟩
    · rw [if_neg e] at h
      refine (R.obj b' o' h).same fun cb2 co2 ce2 hs2 => hother _ fun e2 => ?_
      subst e2
      have hO := R.obj b' o' h
      cases o' with
      | cells rw' sb' cs' =>
        obtain ⟨_, _, _, _, _, _, q1, q2, _⟩ := hO
        rw [hs2] at q1; cases q1; rw [g2] at q2; cases q2
      | map es2 =>
        obtain ⟨_, _, _, q1, q2, _⟩ := hO
        rw [hs2] at q1; cases q1
        exact (R.disj b b' _ _ cb2 0 1 0 1 (Ne.symm e) hb h rfl hσ hs2).elim
  · intro b1 b2 o1 o2 cb1 co1 ce1 co2 ce2 hne h1 h2 hrw s1 s2
    simp only [T.get_set] at h1 h2
    by_cases e1 : b1 = b
    · subst e1; rw [if_neg (Ne.symm hne)] at h2
      exact R.disj b1 b2 _ o2 cb1 co1 ce1 co2 ce2 hne hb h2 rfl s1 s2
    · rw [if_neg e1] at h1
      by_cases e2 : b2 = b
      · subst e2; exact R.disj b1 b2 o1 _ cb1 co1 ce1 co2 ce2 hne h1 hb hrw s1 s2
      · rw [if_neg e2] at h2
        exact R.disj b1 b2 o1 o2 cb1 co1 ce1 co2 ce2 hne h1 h2 hrw s1 s2
  · intro x hx
    have := R.prot x hx
    have hne : x ≠ cb := fun e => R.away b _ cb 0 1 hb rfl hσ (e ▸ hx)
    exact ⟨by simp; exact this.1, by rw [hother _ hne]; exact this.2⟩
  · intro b' o' cb' co' ce' h hrw hs
    simp only [T.get_set] at h
    by_cases e : b' = b
    · subst e; exact R.away b' _ cb' co' ce' hb rfl hs
    · rw [if_neg e] at h; exact R.away b' o' cb' co' ce' h hrw hs
  · obtain ⟨a1, a2, a3, a4⟩ := R.same
    exact ⟨a1, a2, a3, by simpa using a4⟩
  · simp only [T.get_set] at hg
    by_cases e : b' = b
    · subst e; rw [if_pos rfl] at hg; cases hg; cases hrw
    · rw [if_neg e] at hg; exact R.ro b' o' cb' co' ce' hg hrw hs

/-- A block of which more is known than was. -/
theorem Rel.rewrite [Val] (R : Rel ng pr w0 σ s w) {b cb co ce p : Nat} {sb sb' : Tg} {cs cs' : List V} {xs : List Value} {w' : World} (hb : s.h.get b = some (.cells true sb cs)) (hσ : σ b = some (cb, co, ce))
    (hw : Wrote cb p xs w w') (hsz : p + xs.length ≤ ce) (hob : OR σ w' b (.cells true sb' cs')) : Rel ng pr w0 σ { s with h := s.h.set b (.cells true sb' cs') } w' := by
  obtain ⟨_, _, _, c, el, fr, h1, h2, h3, h4, h5, h6⟩ := R.obj b _ hb
  rw [hσ] at h1; cases h1
  have hsz : p + xs.length ≤ c.size := by omega
  refine ⟨?_, ?_, R.fresh, ?_, ?_, R.glob, ?_, fun b' o' cb' co' ce' hg hrw hs => ?_, R.rolt⟩
  · intro b' o' hb'
    simp only [T.get_set] at hb'
    by_cases e : b' = b
    · subst e
      rw [if_pos rfl] at hb'; cases hb'
      exact hob
    · rw [if_neg e] at hb'
      refine (R.obj b' o' hb').wrote hw h2 hsz fun co2 ce2 hσ2 => ?_
      exact (R.disj b b' _ _ cb co ce co2 ce2 (Ne.symm e) hb hb' rfl hσ hσ2).elim
  · intro b1 b2 o1 o2 cb1 co1 ce1 co2 ce2 hne hg1 hg2 hrw hs1 hs2
    simp only [T.get_set] at hg1 hg2
    by_cases e1 : b1 = b
    · subst e1
      rw [if_neg (Ne.symm hne)] at hg2
      exact R.disj b1 b2 _ o2 cb1 co1 ce1 co2 ce2 hne hb hg2 rfl hs1 hs2
    · rw [if_neg e1] at hg1
      by_cases e2 : b2 = b
      · subst e2
        exact R.disj b1 b2 o1 _ cb1 co1 ce1 co2 ce2 hne hg1 hb hrw hs1 hs2
      · rw [if_neg e2] at hg2
        exact R.disj b1 b2 o1 o2 cb1 co1 ce1 co2 ce2 hne hg1 hg2 hrw hs1 hs2
  · intro cb' hp
    have := R.prot cb' hp
    have hne : cb' ≠ cb := fun e => R.away b _ cb co ce hb rfl hσ (e ▸ hp)
    exact ⟨by rw [hw.size]; exact this.1, by rw [hw.other _ hne]; exact this.2⟩
  · intro b' o' cb' co' ce' hg hrw hs
    simp only [T.get_set] at hg
    by_cases e : b' = b
    · subst e; exact R.away b' _ cb' co' ce' hb rfl hs
    · rw [if_neg e] at hg; exact R.away b' o' cb' co' ce' hg hrw hs
  · obtain ⟨a1, a2, a3, a4⟩ := R.same
    exact ⟨hw.os.1.trans a1, hw.os.2.1.trans a2, hw.os.2.2.trans a3, by rw [hw.size]; exact a4⟩
  · simp only [T.get_set] at hg
    by_cases e : b' = b
    · subst e; rw [if_pos rfl] at hg; cases hg; cases hrw
    · rw [if_neg e] at hg; exact R.ro b' o' cb' co' ce' hg hrw hs

/-- A block gives place to another one, that lies within its reach. -/
theorem Rel.regrow [Val] (R : Rel ng pr w0 σ s w) {b cb co ce p q e : Nat} {sb sb' : Tg} {cs cs' : List V} {xs : List Value} {w' : World} (hb : s.h.get b = some (.cells true sb cs)) (hσ : σ b = some (cb, co, ce))
    (hw : Wrote cb p xs w w') (h2 : p + xs.length ≤ ce)
    (hob : OR (fun j => if j = s.next then some (cb, q, e) else σ j) w' s.next (.cells true sb' cs')) :
    Rel ng pr w0 (fun j => if j = s.next then some (cb, q, e) else σ j) { h := (s.h.del b).set s.next (.cells true sb' cs'), next := s.next + 1 } w' := by
  have hfr := R.fresh s.next (Nat.le_refl _)
  have hE : Ext σ (fun j => if j = s.next then some (cb, q, e) else σ j) := Ext.set hfr
  obtain ⟨_, _, _, c, el, fr, g1, g2, g3, g4, g5, g6⟩ := R.obj b _ hb
  rw [hσ] at g1; cases g1
  have hbn : b ≠ s.next := fun e => by subst e; rw [hfr] at hσ; cases hσ
  have hsz : p + xs.length ≤ c.size := by omega
  have get : ∀ b' o, ((s.h.del b).set s.next (.cells true sb' cs')).get b' = some o → (b' = s.next ∧ o = .cells true sb' cs') ∨ (b' ≠ s.next ∧ b' ≠ b ∧ s.h.get b' = some o) := by
    intro b' o h
    rw [T.get_set, T.get_del] at h
    split at h
    · rename_i e; cases h; exact .inl ⟨e, rfl⟩
    · rename_i e
      split at h
      · cases h
      · rename_i e2; exact .inr ⟨e, e2, h⟩
  refine ⟨?_, ?_, ?_, ?_, ?_, ?_, ?_, fun b' o' cb' co' ce' hg hrw hs => ?_, R.rolt⟩
  · intro b' o h
    rcases get _ _ h with ⟨rfl, rfl⟩ | ⟨e1, e2, h⟩
    · exact hob
    · refine ((R.obj b' o h).wrote hw g2 hsz fun co2 ce2 hs2 => ?_).mono hE
      exact (R.disj b b' _ _ cb co ce co2 ce2 (Ne.symm e2) hb h rfl hσ hs2).elim
  · intro b1 b2 o1 o2 cb1 co1 ce1 co2 ce2 hne q1 q2 hrw s1 s2
    rcases get _ _ q1 with ⟨rfl, rfl⟩ | ⟨e1, e2, q1⟩
    · rcases get _ _ q2 with ⟨rfl, rfl⟩ | ⟨e3, e4, q2⟩
      · exact absurd rfl hne
      · simp only [if_true] at s1; cases s1
        rw [if_neg e3] at s2
        exact (R.disj b b2 _ _ cb co ce co2 ce2 (Ne.symm e4) hb q2 rfl hσ s2).elim
    · rw [if_neg e1] at s1
      rcases get _ _ q2 with ⟨rfl, rfl⟩ | ⟨e3, e4, q2⟩
      · simp only [if_true] at s2; cases s2
        exact (R.disj b b1 _ _ cb co ce co1 ce1 (Ne.symm e2) hb q1 rfl hσ s1).elim
      · rw [if_neg e3] at s2
        exact R.disj b1 b2 o1 o2 cb1 co1 ce1 co2 ce2 hne q1 q2 hrw s1 s2
  · intro b' hb'
    simp only at hb'
    rw [if_neg (by omega)]; exact R.fresh b' (by omega)
  · intro x hx
    have := R.prot x hx
    have hne : x ≠ cb := fun e => R.away b _ cb co ce hb rfl hσ (e ▸ hx)
    exact ⟨by rw [hw.size]; exact this.1, by rw [hw.other _ hne]; exact this.2⟩
  · intro b' o cb' co' ce' h hrw hs
    rcases get _ _ h with ⟨rfl, rfl⟩ | ⟨e1, e2, h⟩
    · simp only [if_true] at hs; cases hs; exact R.away b _ cb co ce hb rfl hσ
    · rw [if_neg e1] at hs; exact R.away b' o cb' co' ce' h hrw hs
  · refine ⟨by simp only []; have := R.glob.1; omega, fun g hg => ?_⟩
    obtain ⟨ce', h⟩ := R.glob.2 g hg
    exact ⟨ce', hE _ _ h⟩
  · obtain ⟨a1, a2, a3, a4⟩ := R.same
    exact ⟨hw.os.1.trans a1, hw.os.2.1.trans a2, hw.os.2.2.trans a3, by rw [hw.size]; exact a4⟩
  · rcases get _ _ hg with ⟨rfl, rfl⟩ | ⟨e1, e2, hg⟩
    · cases hrw
    · rw [if_neg e1] at hs; exact R.ro b' o' cb' co' ce' hg hrw hs

-- append
theorem growBy_le (n : Nat) : ∀ (r x : Nat), Builtin.growBy n r x ≤ max x (n + (n + 768) / 4)
  | 0, x => by simp only [Builtin.growBy]; omega
  | r + 1, x => by
    simp only [Builtin.growBy]
    split
    · omega
    · have := growBy_le n r (x + (x + 768) / 4)
      omega
theorem nextslicecap_le {need old : Nat} (h : old < need) : Builtin.nextslicecap need old ≤ 2 * need + 1024 := by
  unfold Builtin.nextslicecap
  split
  · omega
  · split
    · omega
    · have := growBy_le need 4 old
      omega

theorem bytes_cells [Val] (x : ByteArray) : VRs σ ((nats x).map byteV) ((x.data.map fun b => Value.int .u8 b.toNat)).toList := by
  refine VRs.of_get (by simp [nats]) fun i v hi => ?_
  rw [List.getElem?_map] at hi
  cases hn : (nats x)[i]? with
  | none => simp [hn] at hi
  | some n =>
    simp only [hn, Option.map_some, Option.some.injEq] at hi; subst hi
    obtain ⟨b', hb', hbn⟩ : ∃ b', x.data.toList[i]? = some b' ∧ b'.toNat = n := by
      simpa [nats, List.getElem?_map] using hn
    refine ⟨.int .u8 b'.toNat, ?_, by simp only [byteV, VR]; rw [hbn]; rfl⟩
    simp only [Array.toList_map, List.getElem?_map, hb', Option.map_some]
theorem newCells_ok [Val] (R : Rel ng pr w0 σ s w) {esz n : Nat} {y : V} {u : Value} {new : List V} (h : newCells s esz y = some (new, n)) (hy : VR σ y u) :
    (Builtin.lenOf u).run P w = .ok n w ∧ ∃ arr : Array Value, (Builtin.firstCells esz n u).run P w = .ok arr w ∧ VRs σ new arr.toList ∧ arr.size = n * esz := by
  unfold newCells at h
  split at h
  · cases h
    simp only [VR] at hy; subst hy
    exact ⟨rfl, #[], rfl, by simp [VRs], by simp⟩
  · rename_i b o len cap esz' ex
    simp only [VR] at hy
    obtain ⟨a, cap', rfl, hlc, hcc, hex, hadr⟩ := hy
    split at h
    · cases h
      exact ⟨rfl, #[], by simp [Builtin.firstCells, loadCells, loadCellsFrom], by simp [VRs], by simp⟩
    · rename_i len' hne
      split at h
      case h_2 => cases h
      rename_i cs hcs
      cases h
      rcases hadr with ⟨z1, _⟩ | ⟨cb, co, ce, q1, rfl, q3⟩
      · exact absurd z1 (by intro e; exact hne e)
      obtain ⟨xs, hx, hr, hl⟩ := R.cells hcs q1
      exact ⟨rfl, xs.toArray, by simp only [Builtin.firstCells]; exact hl P, by simpa using hr, by simpa using hx⟩
  · rename_i l
    cases he : Nat.beq esz 1 with
    | false => simp [he] at h
    | true =>
      simp only [he, cond_true, Option.some.injEq, Prod.mk.injEq] at h
      obtain ⟨rfl, rfl⟩ := h
      have := Nat.eq_of_beq_eq_true he; subst this
      simp only [VR] at hy
      obtain ⟨su, rfl, rfl⟩ := hy
      rw [nats_length]
      refine ⟨rfl, su.data.map fun b => Value.int .u8 b.toNat, ?_, bytes_cells su, by simp⟩
      simp only [Builtin.firstCells, Sem.run_pure]
      congr 2
      have : su.extract 0 su.size = su := by
        apply nats_inj
        rw [nats_extract, List.drop_zero, Nat.sub_zero, ← nats_length, List.take_of_length_le (Nat.le_refl _)]
      rw [this]
  · cases h

/-- An append that there is room for. -/
theorem append_in [Val] {t ty e : Nat} {tys : Array Nat} {iy : TI} {ie : TI} {us : Array Value} {base : Option Addr} {sLen sCap n : Nat} {y : Value} {arr : Array Value} {w' : World} (T : TOk P c)
    (ht : tys = #[t, ty]) (hu : us = #[.slice base sLen sCap, y]) (h2 : P.underlying t = some (.slice e)) (he : c.tt.get e = some ie) (hy : c.tt.get ty = some iy) (hni : ∀ k, iy.k ≠ .int k)
    (hn : (Builtin.lenOf y).run P w = .ok n w) (rt : Nat) (hroom : sLen + n ≤ sCap) (hf : (Builtin.firstCells ie.size n y).run P w = .ok arr w)
    (hs : ∀ a, base = some a → (storeCells (a.add (sLen * ie.size)) arr.toList).run P w = .ok () w') (hs' : base = none → w' = w) :
    (Builtin.append_ tys rt us).run P w = .ok (.slice base (sLen + n) sCap) w' := by
  subst ht; subst hu
  obtain ⟨info, d, z, g1, g2, g3, g4, g6, g7, g8, g9⟩ := T.at hy
  cases d
  case int => simp only [kOf] at g6; exact absurd g6.symm (hni _)
  all_goals
    unfold Builtin.append_
    simp only [List.getElem?_toArray, List.getElem?_cons_zero, List.getElem?_cons_succ, Sem.run_bind, run_underlying h2, Result.andThen_ok, run_size T he, run_underlying g2, Sem.run_pure]
    simp only [Bool.false_eq_true, if_false, Sem.run_bind, hn, Result.andThen_ok, Sem.run_ite, Bool.not_false, if_true]
    rw [if_pos hroom]
    simp only [hf, Result.andThen_ok]
    cases base with
    | none => simp [hs' rfl]
    | some a => simp only [Sem.run_bind, hs a rfl, Result.andThen_ok, Sem.run_pure]
/-- An append that there is no room for. -/
theorem append_grow [Val] {t ty e : Nat} {tys : Array Nat} {iy : TI} {ie : TI} {us : Array Value} {base : Option Addr} {sLen sCap n : Nat} {y : Value} {arr old : Array Value} (T : TOk P c)
    (ht : tys = #[t, ty]) (hu : us = #[.slice base sLen sCap, y]) (h2 : P.underlying t = some (.slice e)) (he : c.tt.get e = some ie) (hy : c.tt.get ty = some iy) (hni : ∀ k, iy.k ≠ .int k)
    (hn : (Builtin.lenOf y).run P w = .ok n w) (rt : Nat) (hroom : sCap < sLen + n) (hb : (2 * (sLen + n) + 1024) * (ie.bytes + 1) ≤ 140737488355328)
    (f1 : (Builtin.firstCells ie.size n y).run P { w with drawn := w.drawn + 1 } = .ok arr { w with drawn := w.drawn + 1 })
    (f2 : (Builtin.firstCells ie.size sLen (.slice base sLen sCap)).run P { w with drawn := w.drawn + 1 } = .ok old { w with drawn := w.drawn + 1 }) :
    ∃ newCap rest, sLen + n ≤ newCap ∧ rest.size = (newCap - (sLen + n)) * ie.size ∧
      (Builtin.append_ tys rt us).run P w = .ok (.slice (some ⟨w.heap.size, 0, none⟩) (sLen + n) newCap) { w with heap := w.heap.push (.cells (old ++ arr ++ rest) e), drawn := w.drawn + 1 } := by
  subst ht; subst hu
  obtain ⟨info, d, z, g1, g2, g3, g4, g6, g7, g8, g9⟩ := T.at hy
  obtain ⟨infoe, de, ze, e1, e2, e3, e4, e6, e7, e8, e9⟩ := T.at he
  have elen := (T.tt e ie he).len
  have ezl : ze.cells.size = ie.size := by
    have := (toV_ok (σ := fun _ => none) e4).cells.length
    simp only [Array.length_toList] at this
    rw [← this]; exact elen
  let cap := (sLen + n) + (w.tape w.drawn (.appendCap (sLen + n) sCap e)) % (2 ^ 63 - (sLen + n))
  have hns := nextslicecap_le hroom
  have hbound : Builtin.nextslicecap (sLen + n) sCap * ie.bytes ≤ 140737488355328 := by
    refine Nat.le_trans (Nat.mul_le_mul hns (Nat.le_succ ie.bytes)) hb
  refine ⟨cap, Builtin.zeroCells ze.cells (cap - (sLen + n)), by simp only [cap]; omega, by simp [Builtin.zeroCells, ezl], ?_⟩
  cases d
  case int => simp only [kOf] at g6; exact absurd g6.symm (hni _)
  all_goals
    unfold Builtin.append_
    simp only [List.getElem?_toArray, List.getElem?_cons_zero, List.getElem?_cons_succ, Sem.run_bind, run_underlying h2, Result.andThen_ok, run_size T he, run_underlying g2, Sem.run_pure]
    simp only [Bool.false_eq_true, if_false, Sem.run_bind, hn, Result.andThen_ok, Sem.run_ite, Bool.not_false, if_true]
    rw [if_neg (by omega)]
    simp only [run_typeInfo e1, Result.andThen_ok, e8, false_or]
    have hsm : (2 * (sLen + n) + 1024) * 1 ≤ 140737488355328 := Nat.le_trans (Nat.mul_le_mul_left _ (by omega)) hb
    rw [if_neg (by
      simp only [IntKind.max, IntKind.signed, IntKind.bits, if_true, not_and]
      intro h; exfalso
      have : ((sLen + n : Nat) : Int) ≤ 140737488355328 := by omega
      omega)]
    rw [if_neg (by omega)]
    simp only [Sem.run_pure, Result.andThen_ok, Sem.run_bind, run_choose, Question.forced, Bool.false_eq_true, if_false, Question.cut, run_askRoom, f1, f2, run_zeroValue e1 e3, newRow, run_newObj]
    rfl
end
end Go.Ai
