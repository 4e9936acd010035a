/- The evaluator's heap against the model's: reading, writing, new blocks. -/
import Derived.Test.YtdhljfjmalphiaaDoorAiRel
namespace Go.Ai

theorem addr_add (cb co n : Nat) : (⟨cb, co, none⟩ : Addr).add n = ⟨cb, co + n, none⟩ := by
  unfold Addr.add; split <;> simp_all

theorem allScalar_mem : ∀ {vs : List V}, allScalar vs = true → ∀ v ∈ vs, v.scalar = true
  | [], _, v, hv => by cases hv
  | a :: l, h, v, hv => by
    simp only [allScalar, Bool.and_eq_true] at h
    cases hv with
    | head => exact h.1
    | tail _ hv => exact allScalar_mem h.2 v hv
theorem VRs.oneCell [Val] {σ : Sg} : ∀ {vs : List V} {xs : List Value}, VRs σ vs xs → allScalar vs = true → ∀ x ∈ xs, x.oneCell' = true
  | [], _, h, _, x, hx => by simp only [VRs] at h; subst h; cases hx
  | v :: vs, _, h, hs, x, hx => by
    simp only [VRs] at h
    obtain ⟨y, ys, rfl, h2, h3⟩ := h
    simp only [allScalar, Bool.and_eq_true] at hs
    cases hx with
    | head => exact VR.oneCell h2 hs.1
    | tail _ hx => exact VRs.oneCell h3 hs.2 x hx

/-- What a write of some cells leaves. -/
structure Wrote (cb p : Nat) (xs : List Value) (w w' : World) : Prop where
  other : ∀ b, b ≠ cb → w'.heap[b]? = w.heap[b]?
  size : w'.heap.size = w.heap.size
  here : ∀ c el fr, w.heap[cb]? = some (.cells c el fr) → p + xs.length ≤ c.size → ∃ c', w'.heap[cb]? = some (.cells c' el fr) ∧ c'.size = c.size ∧
    ∀ i, c'[i]? = if p ≤ i ∧ i < p + xs.length then xs[i - p]? else c[i]?
  os : w'.os = w.os ∧ w'.output = w.output ∧ w'.tape = w.tape

theorem wrote_setCells (cb : Nat) : ∀ (xs : List Value) (p : Nat) (w : World), Wrote cb p xs w (w.setCells cb p xs)
  | [], p, w => ⟨fun _ _ => rfl, rfl, fun c el fr h _ => ⟨c, h, rfl, fun i => by rw [if_neg (by simp)]⟩, rfl, rfl, rfl⟩
  | v :: r, p, w => by
    have ih := wrote_setCells cb r (p + 1) (w.setCell ⟨cb, p, none⟩ v)
    simp only [World.setCells]
    have hset : ∀ b, (w.setCell ⟨cb, p, none⟩ v).heap[b]? = if cb = b then (w.heap[b]?).map (fun | .cells c elem frozen => .cells (c.setIfInBounds p v) elem frozen | o => o) else w.heap[b]? := by
      intro b
      simp only [World.setCell, Array.getElem?_modify]
      rfl
    refine ⟨fun b hb => ?_, ?_, fun c el fr h hsz => ?_, ?_⟩
    · rw [ih.other b hb, hset, if_neg (Ne.symm hb)]
    · rw [ih.size]; simp
    · have h1 := hset cb
      rw [if_pos rfl, h] at h1
      simp only [Option.map_some] at h1
      simp only [List.length_cons] at hsz
      obtain ⟨c', h2, h3, h4⟩ := ih.here _ _ _ h1 (by simp; omega)
      refine ⟨c', h2, by simpa using h3, fun i => ?_⟩
      rw [h4 i]
      simp only [List.length_cons]
      by_cases hi : p + 1 ≤ i ∧ i < p + 1 + r.length
      · rw [if_pos hi, if_pos (by omega), show i - p = (i - (p + 1)) + 1 by omega]; simp
      · rw [if_neg hi]
        by_cases e : i = p
        · subst e; rw [if_pos (by omega), Array.getElem?_setIfInBounds, if_pos rfl, if_pos (by omega)]; simp
        · rw [if_neg (by omega), Array.getElem?_setIfInBounds_ne (Ne.symm e)]
    · exact ih.os

theorem run_storeCells_at {P : Program} {w : World} {cb p : Nat} {c : Array Value} {el : TypeId} {fr : Nat × Nat} {xs : List Value}
    (h : w.heap[cb]? = some (.cells c el fr)) (hs : p + xs.length ≤ c.size) (hf : fr = (0, 0) ∨ fr = (c.size, c.size + 1)) (h1 : ∀ x ∈ xs, x.oneCell' = true) :
    (storeCells ⟨cb, p, none⟩ xs).run P w = .ok () (w.setCells cb p xs) := by
  have := run_storeCells_cells (P := P) cb p xs 0 w (fun j hj => ?_) (fun j hj => ?_) h1
  · simpa using this
  · simp only [World.cell?, h, Nat.add_zero]
    simp; omega
  · simp only [World.frozen?, h, Nat.add_zero]
    rcases hf with rfl | rfl
    · simp
    · simp; omega

section
variable {ng : Nat} {pr : Prt} {w0 : World} {σ : Sg} {s : S} {w : World}

theorem Rel.cell [Val] {b o : Nat} {v : V} (R : Rel ng pr w0 σ s w) (h : s.cellAt b o = some v) {cb co ce : Nat} (hσ : σ b = some (cb, co, ce)) :
    ∃ x, w.cell? ⟨cb, co + o, none⟩ = some x ∧ VR σ v x := by
  unfold S.cellAt at h
  split at h
  · rename_i rw sb cs hb
    obtain ⟨cb', co', ce', c, el, fr, h1, h2, h3, h4, h5, _⟩ := R.obj b _ hb
    rw [hσ] at h1; cases h1
    rw [nth_eq] at h
    obtain ⟨x, hx, hv⟩ := h5 o v h
    exact ⟨x, by simp [World.cell?, h2, hx], hv⟩
  · cases h
theorem Rel.cells [Val] {b o n : Nat} {vs : List V} (R : Rel ng pr w0 σ s w) (h : s.cellsAt b o n = some vs) {cb co ce : Nat} (hσ : σ b = some (cb, co, ce)) :
    ∃ xs : List Value, xs.length = n ∧ VRs σ vs xs ∧ ∀ (P : Program), (loadCells ⟨cb, co + o, none⟩ n).run P w = .ok xs.toArray w := by
  unfold S.cellsAt at h
  split at h
  · rename_i rw sb cs hb
    obtain ⟨cb', co', ce', c, el, fr, h1, h2, h3, h4, h5, _⟩ := R.obj b _ hb
    rw [hσ] at h1; cases h1
    obtain ⟨e1, e2, e3⟩ := sub_some h
    have key : ∀ i, i < n → ∃ v x, vs[i]? = some v ∧ c[co + (o + i)]? = some x ∧ VR σ v x := by
      intro i hi
      have hg := sub_get h i hi
      have hlt : i < vs.length := by omega
      rw [List.getElem?_eq_getElem hlt] at hg
      obtain ⟨x, hx, hv⟩ := h5 (o + i) _ hg.symm
      exact ⟨_, x, List.getElem?_eq_getElem hlt, hx, hv⟩
    let xs : List Value := (List.range n).map fun i => (c[co + (o + i)]?).getD undef
    have hlen : xs.length = n := by simp [xs]
    have hget : ∀ i, i < n → xs[i]? = c[co + (o + i)]? := by
      intro i hi
      obtain ⟨v, x, _, hx, _⟩ := key i hi
      simp [xs, hi, hx]
    refine ⟨xs, hlen, VRs.of_get (by omega) fun i v hv => ?_, fun P => ?_⟩
    · have hi : i < n := by
        rcases Nat.lt_or_ge i vs.length with h' | h'
        · omega
        · simp [List.getElem?_eq_none h'] at hv
      obtain ⟨v', x, hv', hx, hr⟩ := key i hi
      rw [hv'] at hv; cases hv
      exact ⟨x, by rw [hget i hi, hx], hr⟩
    · rw [← hlen]
      refine run_loadCells_list w _ xs fun j v hj => ?_
      have hi : j < n := by
        rcases Nat.lt_or_ge j xs.length with h' | h'
        · omega
        · simp [List.getElem?_eq_none h'] at hj
      rw [hget j hi] at hj
      rw [addr_add]
      simp [World.cell?, h2, Nat.add_assoc, hj]
  · cases h

theorem Rel.lt [Val] {b : Nat} {o : O} (R : Rel ng pr w0 σ s w) (h : s.h.get b = some o) : b < s.next := by
  rcases Nat.lt_or_ge b s.next with h' | h'
  · exact h'
  · have hn := R.fresh b h'
    have := R.obj b o h
    cases o with
    | cells rw sb cs => obtain ⟨_, _, _, _, _, _, h1, _⟩ := this; rw [hn] at h1; cases h1
    | map es => obtain ⟨_, _, _, h1, _⟩ := this; rw [hn] at h1; cases h1
theorem OR.block [Val] {o : O} {b : Nat} (h : OR σ w b o) : ∃ cb co ce, σ b = some (cb, co, ce) ∧ cb < w.heap.size := by
  cases o with
  | cells rw sb cs =>
    obtain ⟨cb, co, ce, c, el, fr, h1, h2, _⟩ := h
    refine ⟨cb, co, ce, h1, ?_⟩
    rcases Nat.lt_or_ge cb w.heap.size with h' | h'
    · exact h'
    · simp [Array.getElem?_eq_none h'] at h2
  | map es =>
    obtain ⟨cb, ces, clock, h1, h2, _⟩ := h
    refine ⟨cb, 0, 1, h1, ?_⟩
    rcases Nat.lt_or_ge cb w.heap.size with h' | h'
    · exact h'
    · simp [Array.getElem?_eq_none h'] at h2
theorem OR.mono [Val] {σ' : Sg} {o : O} {b : Nat} (he : Ext σ σ') (h : OR σ w b o) : OR σ' w b o := by
  cases o with
  | cells rw sb cs =>
    obtain ⟨cb, co, ce, c, el, fr, h1, h2, h3, h4, h5, h6⟩ := h
    exact ⟨cb, co, ce, c, el, fr, he _ _ h1, h2, h3, h4, fun i x hx => (let ⟨v, a, b⟩ := h5 i x hx; ⟨v, a, VR.mono he _ _ b⟩), h6⟩
  | map es =>
    obtain ⟨cb, ces, clock, h1, h2, h3⟩ := h
    exact ⟨cb, ces, clock, he _ _ h1, h2, EntR.mono he h3⟩
/-- An object stays, where its block's row is as it was. -/
theorem OR.same [Val] {w' : World} {o : O} {b : Nat} (h : OR σ w b o) (hs : ∀ cb co ce, σ b = some (cb, co, ce) → w'.heap[cb]? = w.heap[cb]?) : OR σ w' b o := by
  cases o with
  | cells rw sb cs =>
    obtain ⟨cb, co, ce, c, el, fr, h1, h2, h3⟩ := h
    exact ⟨cb, co, ce, c, el, fr, h1, by rw [hs _ _ _ h1]; exact h2, h3⟩
  | map es =>
    obtain ⟨cb, ces, clock, h1, h2, h3⟩ := h
    exact ⟨cb, ces, clock, h1, by rw [hs _ _ _ h1]; exact h2, h3⟩
/-- An object stays behind a write that is apart from it. -/
theorem OR.wrote [Val] {w' : World} {o : O} {b cb p : Nat} {xs : List Value} {c : Array Value} {el : TypeId} {fr : Nat × Nat} (h : OR σ w b o) (hw : Wrote cb p xs w w')
    (hc : w.heap[cb]? = some (.cells c el fr)) (hsz : p + xs.length ≤ c.size)
    (ha : ∀ co ce, σ b = some (cb, co, ce) → ce ≤ p ∨ p + xs.length ≤ co) : OR σ w' b o := by
  cases o with
  | cells rw sb cs =>
    obtain ⟨cb', co, ce, c', el', fr', h1, h2, h3, h4, h5, h6⟩ := h
    by_cases e : cb' = cb
    · subst e
      rw [hc] at h2; cases h2
      obtain ⟨c2, g1, g2, g3⟩ := hw.here _ _ _ hc hsz
      refine ⟨cb', co, ce, c2, el, fr, h1, g1, h3, by omega, fun i x hx => ?_, by rw [g2]; exact h6⟩
      obtain ⟨v, hv, hr⟩ := h5 i x hx
      have hi : i < cs.length := by
        rcases Nat.lt_or_ge i cs.length with h' | h'
        · exact h'
        · simp [List.getElem?_eq_none h'] at hx
      refine ⟨v, ?_, hr⟩
      rw [g3, if_neg]
      · exact hv
      · have := ha _ _ h1; omega
    · exact ⟨cb', co, ce, c', el', fr', h1, by rw [hw.other _ e]; exact h2, h3, h4, h5, h6⟩
  | map es =>
    obtain ⟨cb', ces, clock, h1, h2, h3⟩ := h
    by_cases e : cb' = cb
    · subst e; rw [hc] at h2; cases h2
    · exact ⟨cb', ces, clock, h1, by rw [hw.other _ e]; exact h2, h3⟩

/-- A write within a block. -/
theorem Rel.put [Val] {s' : S} {b o : Nat} {vs : List V} {xs : List Value} (R : Rel ng pr w0 σ s w) (h : s.put b o vs = some s') (hv : VRs σ vs xs)
    {cb co ce : Nat} (hσ : σ b = some (cb, co, ce)) :
    ∃ w', (∀ P : Program, (storeCells ⟨cb, co + o, none⟩ xs).run P w = .ok () w') ∧ Rel ng pr w0 σ s' w' := by
  unfold S.put at h
  split at h
  case h_2 => cases h
  rename_i sb cs hb
  cases hsc : allScalar vs with
  | false => simp [hsc] at h
  | true =>
  simp only [hsc] at h
  cases hu : upd cs o vs with
  | none => simp [hu] at h
  | some cs' =>
  simp only [hu, Option.some.injEq] at h
  subst h
  obtain ⟨u1, u2, u3⟩ := upd_some _ _ _ _ hu
  obtain ⟨cb', co', ce', c, el, fr, h1, h2, h3, h4, h5, h6⟩ := R.obj b _ hb
  rw [hσ] at h1; cases h1
  have hlen := hv.length
  have hsz : co + o + xs.length ≤ c.size := by omega
  have hw := wrote_setCells cb xs (co + o) w
  refine ⟨w.setCells cb (co + o) xs, fun P => run_storeCells_at h2 hsz (h6 rfl).1 (VRs.oneCell hv hsc), ?_⟩
  refine ⟨?_, ?_, R.fresh, ?_, ?_, R.glob, ?_, fun b' o' cb' co' ce' hg hrw hs => ?_, R.rolt⟩
  · intro b' o' hb'
    simp only [T.get_set] at hb'
    by_cases e : b' = b
    · subst e
      rw [if_pos rfl] at hb'; cases hb'
      obtain ⟨c2, g1, g2, g3⟩ := hw.here _ _ _ h2 hsz
      refine ⟨cb, co, ce, c2, el, fr, hσ, g1, by omega, by omega, fun i x hx => ?_, by rw [g2, u1]; exact h6⟩
      rw [u3 i] at hx
      by_cases hi : o ≤ i ∧ i < o + vs.length
      · rw [if_pos hi] at hx
        obtain ⟨y, hy, hr⟩ := hv.get hx
        refine ⟨y, ?_, hr⟩
        rw [g3, if_pos (by omega), show co + i - (co + o) = i - o by omega, hy]
      · rw [if_neg hi] at hx
        obtain ⟨y, hy, hr⟩ := h5 i x hx
        exact ⟨y, by rw [g3, if_neg (by omega)]; exact hy, hr⟩
    · rw [if_neg e] at hb'
      refine (R.obj b' o' hb').wrote hw h2 hsz fun co2 ce2 hσ2 => ?_
      exact (R.disj b b' _ _ cb co ce co2 ce2 (Ne.symm e) hb hb' rfl hσ hσ2).elim
  · intro b1 b2 o1 o2 cb1 co1 ce1 co2 ce2 hne hg1 hg2 hrw hs1 hs2
    simp only [T.get_set] at hg1 hg2
    by_cases e1 : b1 = b
    · subst e1
      rw [if_neg (Ne.symm hne)] at hg2
      exact R.disj b1 b2 _ o2 cb1 co1 ce1 co2 ce2 hne hb hg2 rfl hs1 hs2
    · rw [if_neg e1] at hg1
      by_cases e2 : b2 = b
      · subst e2
        exact R.disj b1 b2 o1 _ cb1 co1 ce1 co2 ce2 hne hg1 hb hrw hs1 hs2
      · rw [if_neg e2] at hg2
        exact R.disj b1 b2 o1 o2 cb1 co1 ce1 co2 ce2 hne hg1 hg2 hrw hs1 hs2
  · intro cb' hp
    have := R.prot cb' hp
    have hne : cb' ≠ cb := fun e => R.away b _ cb co ce hb rfl hσ (e ▸ hp)
    exact ⟨by rw [hw.size]; exact this.1, by rw [hw.other _ hne]; exact this.2⟩
  · intro b' o' cb' co' ce' hg hrw hs
    simp only [T.get_set] at hg
    by_cases e : b' = b
    · subst e; exact R.away b' _ cb' co' ce' hb rfl hs
    · rw [if_neg e] at hg; exact R.away b' o' cb' co' ce' hg hrw hs
  · obtain ⟨a1, a2, a3, a4⟩ := R.same
    exact ⟨hw.os.1.trans a1, hw.os.2.1.trans a2, hw.os.2.2.trans a3, by rw [hw.size]; exact a4⟩
  · simp only [T.get_set] at hg
    by_cases e : b' = b
    · subst e; rw [if_pos rfl] at hg; cases hg; cases hrw
    · rw [if_neg e] at hg; exact R.ro b' o' cb' co' ce' hg hrw hs

theorem Ext.set {b : Nat} {x : Nat × Nat × Nat} (h : σ b = none) : Ext σ (fun j => if j = b then some x else σ j) := by
  intro j y hj
  by_cases e : j = b
  · subst e; rw [h] at hj; cases hj
  · simpa [e] using hj

/-- A new block. -/
theorem Rel.newBlock [Val] {w' : World} {ob : Obj} {o : O} {ce : Nat} (R : Rel ng pr w0 σ s w) (hrwo : o.rw = true) (hh : w'.heap = w.heap.push ob)
    (ho : w'.os = w.os ∧ w'.output = w.output ∧ w'.tape = w.tape)
    (hob : OR (fun j => if j = s.next then some (w.heap.size, 0, ce) else σ j) w' s.next o) :
    Rel ng pr w0 (fun j => if j = s.next then some (w.heap.size, 0, ce) else σ j) (s.new o) w' := by
  have hfr := R.fresh s.next (Nat.le_refl _)
  have hE : Ext σ (fun j => if j = s.next then some (w.heap.size, 0, ce) else σ j) := Ext.set hfr
  have hold : ∀ cb, cb < w.heap.size → w'.heap[cb]? = w.heap[cb]? := fun cb h => by rw [hh, Array.getElem?_push_lt h]; simp [h]
  refine ⟨?_, ?_, ?_, ?_, ?_, ?_, ?_, fun b' o' cb' co' ce' hg hrw hs => ?_, R.rolt⟩
  · intro b o' hb
    simp only [S.new, T.get_set] at hb
    by_cases e : b = s.next
    · subst e; rw [if_pos rfl] at hb; cases hb; exact hob
    · rw [if_neg e] at hb
      have hO := R.obj b o' hb
      refine (hO.same fun cb co ce' hs => ?_).mono hE
      obtain ⟨cb', co', ce'', h1, h2⟩ := hO.block
      rw [hs] at h1; cases h1
      exact hold _ h2
  · intro b1 b2 o1 o2 cb co1 ce1 co2 ce2 hne hg1 hg2 hrw hs1 hs2
    simp only [S.new, T.get_set] at hg1 hg2
    by_cases e1 : b1 = s.next
    · subst e1
      rw [if_neg (Ne.symm hne)] at hg2
      simp only [if_true] at hs1; cases hs1
      rw [if_neg (Ne.symm hne)] at hs2
      obtain ⟨_, _, _, h1, h2⟩ := (R.obj b2 o2 hg2).block
      rw [hs2] at h1; cases h1; omega
    · rw [if_neg e1] at hg1 hs1
      by_cases e2 : b2 = s.next
      · subst e2
        simp only [if_true] at hs2; cases hs2
        obtain ⟨_, _, _, h1, h2⟩ := (R.obj b1 o1 hg1).block
        rw [hs1] at h1; cases h1; omega
      · rw [if_neg e2] at hg2 hs2
        exact R.disj b1 b2 o1 o2 cb co1 ce1 co2 ce2 hne hg1 hg2 hrw hs1 hs2
  · intro b hb
    simp only [S.new] at hb
    rw [if_neg (by omega)]; exact R.fresh b (by omega)
  · intro cb hp
    have := R.prot cb hp
    exact ⟨by rw [hh]; simp; omega, by rw [hold _ this.1]; exact this.2⟩
  · intro b o' cb co ce' hg hrw hs hp
    simp only [S.new, T.get_set] at hg
    by_cases e : b = s.next
    · subst e; simp only [if_true] at hs; cases hs
      exact absurd (R.prot _ hp).1 (by omega)
    · rw [if_neg e] at hg hs; exact R.away b o' cb co ce' hg hrw hs hp
  · refine ⟨by simp only [S.new]; have := R.glob.1; omega, fun g hg => ?_⟩
    obtain ⟨ce', h⟩ := R.glob.2 g hg
    exact ⟨ce', hE _ _ h⟩
  · obtain ⟨a1, a2, a3, a4⟩ := R.same
    exact ⟨ho.1.trans a1, ho.2.1.trans a2, ho.2.2.trans a3, by rw [hh]; simp; omega⟩
  · simp only [S.new, T.get_set] at hg
    by_cases e : b' = s.next
    · subst e; rw [if_pos rfl] at hg; cases hg; rw [hrwo] at hrw; cases hrw
    · rw [if_neg e] at hg hs; exact R.ro b' o' cb' co' ce' hg hrw hs
end
end Go.Ai
