/- Regions that draw their order: one more operation. -/
import Derived.Test.YtdhljfjmalphiaaDoorAiDrawD
namespace Go.Ai
section
variable {P : Program} {c : Ctx} {pr : Prt} {w0 : World} {call : CallF} {n : Nat} {ops : Array Oper} {ri : RI} {recs : List Rec} {tm0 tmF : T V} {s0 sF curF : S} {σ0 : Sg}
  {D : Nat → Bool} {A B : List Rec} {tmB : T V} {sB : S} {σh : Sg} {a : Act} {w : World} {A0 B0 : List Rec} {x : Rec}

/-- What is done without a trace in memory. -/
theorem Inv.quiet [Val] (N : Canon c call n ops ri recs tm0 s0 tmF sF curF) (I : Inv c pr w0 call n ops recs tm0 s0 tmF sF curF σ0 D A B tmB sB σh a w)
    (hx : recs = A0 ++ x :: B0) (hc : Closed ops.toList (fun i => D i = true)) (hD : D x.i = false) (he : ¬ x.isEff) (ha : ¬ x.isAlloc) (hs : x.sN = x.s) {cv : Value} (hv : VR (cut σh (max x.s.next sB.next)) x.val cv) :
    Inv c pr w0 call n ops recs tm0 s0 tmF sF curF σ0 (fun i => D i || i == x.i) A B tmB sB σh (a.put x.o.dst cv) w := by
  have hxm : x ∈ recs := by rw [hx]; simp
  have hB : ∀ y, y ∈ B → y ∈ recs := fun y hy => by rw [I.split]; simp [hy]
  obtain ⟨f1, f2⟩ := Inv.put N hx hc hD I.fr I.size (Ext.refl σh) (Nat.le_refl _) (by rw [hs]; exact hv)
  refine ⟨I.split, I.chA, I.chB, fun y hy h => by simp [I.doneA y hy h], fun y hy h => ?_, I.lastA, I.R, fun b v hb hv => ?_, fun y ob f hy hk hd => ?_, I.inj, f1, f2, ?_, I.e0⟩
  · simp only [I.openB y hy h, Bool.false_or, beq_eq_false_iff_ne]
    intro e
    exact he (N.inj (hB y hy) hxm e ▸ h)
  · obtain ⟨y, h1, h2, h3, h4⟩ := I.far b v hb hv
    exact ⟨y, h1, h2, by simp [h3], h4⟩
  · simp only [Bool.or_eq_true, beq_iff_eq] at hd
    rcases hd with hd | hd
    · exact I.pend y ob f hy hk hd
    · exact (ha (N.inj (hB y hy) hxm hd ▸ ⟨ob, f, hk⟩)).elim
  · cases x.o.dst <;> exact I.defers

theorem Inv.link (N : Canon c call n ops ri recs tm0 s0 tmF sF curF) (hx : recs = A0 ++ x :: B0) : ∃ curN, Link c call n ops x curN := chain_link N.ch x (by rw [hx]; simp)

/-- A new block ahead of its turn, or in its turn. -/
theorem Inv.made [Val] (N : Canon c call n ops ri recs tm0 s0 tmF sF curF) (I : Inv c pr w0 call n ops recs tm0 s0 tmF sF curF σ0 D A B tmB sB σh a w)
    (hx : recs = A0 ++ x :: B0) (hc : Closed ops.toList (fun i => D i = true)) (hD : D x.i = false) {ob : O} {f : Nat → V} (hk : x.kd = .alloc ob f) {nx : Sem Next} (M : Made P (cut σh (max x.s.next sB.next)) w nx ob f) :
    ∃ cv w' σh', nx.run P w = .ok (.value cv) w' ∧ Inv c pr w0 call n ops recs tm0 s0 tmF sF curF σ0 (fun i => D i || i == x.i) A B tmB sB σh' (a.put x.o.dst cv) w' := by
  have hxm : x ∈ recs := by rw [hx]; simp
  have hB : ∀ y, y ∈ B → y ∈ recs := fun y hy => by rw [I.split]; simp [hy]
  have hxB : x ∈ B := by
    have := hxm
    rw [I.split] at this
    rcases List.mem_append.1 this with h | h
    · rw [I.doneA x h (.inr ⟨ob, f, hk⟩)] at hD; cases hD
    · exact h
  have hle : sB.next ≤ x.s.next := ((chain_next I.chB).2 x hxB).1
  rw [show max x.s.next sB.next = x.s.next by omega] at M
  obtain ⟨curN, hl⟩ := Inv.link N hx
  obtain ⟨l1, l2, l3, l4⟩ := hl
  simp only [hk] at l4
  obtain ⟨_, _, hal, hsN, _⟩ := l4
  obtain ⟨cv, w', obj, ce, r1, r2, r3, r4⟩ := M.ex
  have hnone : σh x.s.next = none := by
    cases h : σh x.s.next with
    | none => rfl
    | some v =>
      obtain ⟨y, g1, g2, g3, g4⟩ := I.far _ _ hle h
      have := alloc_num N hxm (hB y g1) ⟨ob, f, hk⟩ g2 g4
      rw [← this, hD] at g3; cases g3
  let σh' : Sg := fun j => if j = x.s.next then some (w.heap.size, 0, ce) else σh j
  have hE : Ext σh σh' := Ext.set hnone
  have hnew : σh' x.s.next = some (w.heap.size, 0, ce) := by simp [σh']
  have hoth : ∀ b, b ≠ x.s.next → σh' b = σh b := fun b hb => by simp [σh', hb]
  have hcut : ∀ k, k ≤ x.s.next → cut σh' k = cut σh k := by
    intro k hk; funext b; unfold cut
    by_cases e : b < k
    · rw [if_pos e, if_pos e, hoth b (by omega)]
    · rw [if_neg e, if_neg e]
  have hE' : ∀ σ', Ext (cut σh' (x.s.next + 1)) σ' → Ext (cut σh x.s.next) σ' := fun σ' h => by
    rw [← hcut _ (Nat.le_refl _)]; exact (cut_le (Nat.le_succ _)).trans h
  have hnew' : ∀ σ', Ext (cut σh' (x.s.next + 1)) σ' → σ' x.s.next = some (w.heap.size, 0, ce) := fun σ' h => h _ _ (by rw [cut_lt (Nat.lt_succ_self _)]; exact hnew)
  obtain ⟨v1, _⟩ := r4 (cut σh' (x.s.next + 1)) x.s.next (hE' _ (Ext.refl _)) (hnew' _ (Ext.refl _))
  have hold : ∀ cb, cb < w.heap.size → w'.heap[cb]? = w.heap[cb]? := fun cb h => by rw [r2, Array.getElem?_push_lt h]; simp [h]
  have hlt : ∀ {cb : Nat} {o : Obj}, w.heap[cb]? = some o → cb < w.heap.size := fun h => (Array.getElem?_eq_some_iff.1 h).1
  have hR : Rel c.ng pr w0 (cut σh' sB.next) sB w' := by rw [hcut _ hle]; exact I.R.pushed r2 r3
  have hlive : ∀ b' o' cb co' ce', sB.h.get b' = some o' → σh' b' = some (cb, co', ce') → cb < w.heap.size ∧ σh b' = some (cb, co', ce') := by
    intro b' o' cb co' ce' h1 h2
    have hb := I.R.lt h1
    rw [hoth b' (by omega)] at h2
    obtain ⟨cb1, co1, ce1, q1, q2⟩ := (I.R.obj b' o' h1).block
    have := cut_ext _ _ q1
    rw [h2] at this; cases this
    exact ⟨q2, h2⟩
  have hpnew : Pend pr w0 σh' sB w' x.s.next ob := by
    refine ⟨⟨w.heap.size, ce, obj, hnew, by rw [r2]; simp, fun hp => absurd (I.R.prot _ hp).1 (by omega), I.R.same.2.2.2, fun b' o' co' ce' h1 h2 => absurd (hlive _ _ _ _ _ h1 h2).1 (by omega), fun σ' w'' he hw => ?_⟩⟩
    exact (r4 σ' x.s.next (hE' _ he) (hnew' _ he)).2 w'' hw
  have hpold : ∀ b ob', b ≠ x.s.next → Pend pr w0 σh sB w b ob' → Pend pr w0 σh' sB w' b ob' := by
    intro b ob' hb p
    obtain ⟨cb, ce', obj', h1, h2, h3, h4, h5, h6⟩ := p.ex
    exact ⟨⟨cb, ce', obj', by rw [hoth b hb]; exact h1, by rw [hold _ (hlt h2)]; exact h2, h3, h4, fun b' o' co' ce' g1 g2 => h5 b' o' co' ce' g1 (hlive _ _ _ _ _ g1 g2).2,
      fun σ' w'' he hw => h6 σ' w'' ((cut_mono hE).trans he) hw⟩⟩
  have hfar : ∀ b v, sB.next ≤ b → σh b = some v → v.1 < w.heap.size := by
    intro b v hb hv
    obtain ⟨y, g1, g2, g3, g4⟩ := I.far b v hb hv
    obtain ⟨ob', f', hk'⟩ := g2
    obtain ⟨cb, ce', obj', h1, h2, _⟩ := (I.pend y ob' f' g1 hk' g3).ex
    rw [← g4, hv] at h1; cases h1
    exact hlt h2
  obtain ⟨f1, f2⟩ := Inv.put N (k' := sB.next) hx hc hD I.fr I.size hE (Nat.le_refl _) (cv := cv) (VR.mono (cut_le (k := x.s.next + 1) (k' := max x.sN.next sB.next) (by rw [hsN]; simp only [S.new]; omega)) _ _ (by unfold Rec.val; rw [hk]; exact v1))
  refine ⟨cv, w', σh', r1, I.split, I.chA, I.chB, fun y hy h => by simp [I.doneA y hy h], fun y hy h => ?_, I.lastA, hR, fun b v hb hv => ?_, fun y ob' f' hy hk' hd => ?_, fun b b' cb co ce1 co' ce' h1 h2 h3 h4 h5 => ?_, f1, f2, ?_, by rw [hcut _ hle]; exact I.e0⟩
  · simp only [I.openB y hy h, Bool.false_or, beq_eq_false_iff_ne]
    intro e
    obtain ⟨v, hv⟩ := N.inj (hB y hy) hxm e ▸ h
    rw [hk] at hv; cases hv
  · by_cases e : b = x.s.next
    · exact ⟨x, hxB, ⟨ob, f, hk⟩, by simp, e⟩
    · rw [hoth b e] at hv
      obtain ⟨y, h1, h2, h3, h4⟩ := I.far b v hb hv
      exact ⟨y, h1, h2, by simp [h3], h4⟩
  · simp only [Bool.or_eq_true, beq_iff_eq] at hd
    by_cases e : y = x
    · subst e
      rw [hk] at hk'; cases hk'
      exact hpnew
    · rcases hd with hd | hd
      · exact hpold _ _ (fun h => e (alloc_num N (hB y hy) hxm ⟨ob', f', hk'⟩ ⟨ob, f, hk⟩ h)) (I.pend y ob' f' hy hk' hd)
      · exact (e (N.inj (hB y hy) hxm hd)).elim
  · by_cases e : b = x.s.next
    · subst e
      rw [hnew] at h4; cases h4
      rw [hoth b' (Ne.symm h3)] at h5
      exact absurd (hfar _ _ h2 h5) (by simp)
    · rw [hoth b e] at h4
      by_cases e' : b' = x.s.next
      · subst e'
        rw [hnew] at h5; cases h5
        exact absurd (hfar _ _ h1 h4) (by simp)
      · rw [hoth b' e'] at h5
        exact I.inj b b' cb co ce1 co' ce' h1 h2 h3 h4 h5
  · cases x.o.dst <;> exact I.defers

/-- What reads memory reads what it reads in the canonical run. -/
theorem Inv.reads [Val] (N : Canon c call n ops ri recs tm0 s0 tmF sF curF) (I : Inv c pr w0 call n ops recs tm0 s0 tmF sF curF σ0 D A B tmB sB σh a w)
    (hx : recs = A0 ++ x :: B0) (hc : Closed ops.toList (fun i => D i = true)) (hD : D x.i = false) (hp : ∀ e ∈ edgesOf x.o.after.toList, D e = true)
    {r : S → Option V} {v : V} (hk : x.kd = .pure r v) : r sB = some v := by
  have hxm : x ∈ recs := by rw [hx]; simp
  obtain ⟨curN, hl⟩ := Inv.link N hx
  obtain ⟨l1, l2, l3, l4⟩ := hl
  simp only [hk] at l4
  obtain ⟨_, hcl, hmf, _, hrx, _⟩ := l4
  have clE : ∀ e ∈ recs, e.isEff → clsOf c e.o.op = .eff := by
    intro e he hee
    obtain ⟨curN, _, _, _, l⟩ := chain_link N.ch e he
    obtain ⟨u, hu⟩ := hee
    simp only [hu] at l
    exact l.2.1
  have := hxm
  rw [I.split] at this
  rcases List.mem_append.1 this with h | h
  · -- the last effect is done already
    rcases I.lastA with h0 | ⟨A', e, hA, he⟩
    · rw [h0] at h; cases h
    rw [hA] at h
    have hxA : x ∈ A' := by
      rcases List.mem_append.1 h with h | h
      · exact h
      · simp only [List.mem_singleton] at h
        subst h
        obtain ⟨u, hu⟩ := he
        rw [hk] at hu; cases hu
    obtain ⟨A1, A2, e2⟩ := List.append_of_mem hxA
    have hem : e ∈ recs := by rw [I.split, hA]; simp
    have hDe : D e.i = true := I.doneA e (by rw [hA]; simp) (.inl he)
    have hpair := N.pair (A := A1) (B := A2) (C := B) (x := x) (y := e) (by rw [I.split, hA, e2]; simp) hc (.inl hDe) (by rw [hD]; simp)
    unfold pairOk at hpair
    simp only [hcl, clE e hem he, hmf, Bool.false_or, Bool.and_eq_true] at hpair
    have hpost := has_ok.1 hpair.2
    have hlk := allR_ok N.lk e hem
    obtain ⟨u, hu⟩ := he
    simp only [hu] at hlk
    have := allR_ok (allN_ok hlk _ hpost) x hxm
    simp only [hk] at this
    have hb : Nat.beq x.i x.i = true := by rw [Nat.beq_eq]
    rw [hb] at this
    have hs := sameRead_ok this
    have hch := I.chA
    rw [hA] at hch
    obtain ⟨_, _, _, _, c2⟩ := chain_append hch
    obtain ⟨_, _, _, _, _, _, e4, _⟩ := c2
    rw [e4]; exact hs
  · obtain ⟨C, B2, eB⟩ := List.append_of_mem h
    by_cases hC : ∀ y ∈ C, ¬ y.isEff
    · have hch := I.chB
      rw [eB] at hch
      obtain ⟨_, _, _, c1, c2⟩ := chain_append hch
      obtain ⟨_, _, e3, _⟩ := c2
      rw [← (chain_cur c1 hC).1, ← e3]; exact hrx
    · have first : ∀ L : List Rec, ¬ (∀ y ∈ L, ¬ y.isEff) → ∃ C1 e C2, L = C1 ++ e :: C2 ∧ e.isEff ∧ ∀ y ∈ C1, ¬ y.isEff := by
        intro L
        induction L with
        | nil => intro h; exact (h fun y hy => by cases hy).elim
        | cons y L ih =>
          intro h
          by_cases hy : y.isEff
          · exact ⟨[], y, L, rfl, hy, fun z hz => by cases hz⟩
          · obtain ⟨C1, e, C2, h1, h2, h3⟩ := ih fun hh => h fun z hz => by
              cases hz with
              | head => exact hy
              | tail _ hz => exact hh z hz
            refine ⟨y :: C1, e, C2, by rw [h1]; rfl, h2, fun z hz => ?_⟩
            cases hz with
            | head => exact hy
            | tail _ hz => exact h3 z hz
      obtain ⟨C1, e, C2, eC, he, hn⟩ := first C hC
      have hem : e ∈ recs := by rw [I.split, eB, eC]; simp
      have hDe : D e.i = false := I.openB e (by rw [eB, eC]; simp) he
      have hpair := N.pair (A := A ++ C1) (B := C2) (C := B2) (x := e) (y := x) (by rw [I.split, eB, eC]; simp) hc (.inr hp) (by rw [hDe]; simp)
      unfold pairOk at hpair
      simp only [hcl, clE e hem he, hmf, Bool.false_or, Bool.and_eq_true] at hpair
      have hpre := has_ok.1 hpair.2
      have hlk := allR_ok N.lk x hxm
      simp only [hk] at hlk
      have := allR_ok (allN_ok hlk _ hpre) e hem
      obtain ⟨u, hu⟩ := he
      simp only [hu] at this
      have hb : Nat.beq e.i e.i = true := by rw [Nat.beq_eq]
      rw [hb] at this
      have hs := sameRead_ok this
      have hch := I.chB
      rw [eB, eC, List.append_assoc] at hch
      obtain ⟨_, _, _, c1, c2⟩ := chain_append hch
      rw [List.cons_append] at c2
      obtain ⟨_, _, e3, _⟩ := c2
      rw [← (chain_cur c1 hn).1, ← e3]; exact hs

/-- What reads a block made in this region. -/
theorem Inv.readsP [Val] (N : Canon c call n ops ri recs tm0 s0 tmF sF curF) (I : Inv c pr w0 call n ops recs tm0 s0 tmF sF curF σ0 D A B tmB sB σh a w)
    (hx : recs = A0 ++ x :: B0) (hc : Closed ops.toList (fun i => D i = true)) (hD : D x.i = false) (hp : ∀ e ∈ edgesOf x.o.after.toList, D e = true)
    {b : Nat} {ob : O} {r : S → Option V} {v : V} (hk : x.kd = .pend b ob r v)
    (hρ : ∀ y v, lookρ c ops.toList x.o x.tm y = some v → VR (cut σh (max x.s.next sB.next)) v (a.eval y)) : r sB = some v ∨ ∃ s', Rel c.ng pr w0 (cut σh (max x.s.next sB.next)) s' w ∧ r s' = some v := by
  have hxm : x ∈ recs := by rw [hx]; simp
  obtain ⟨curN, hl⟩ := Inv.link N hx
  obtain ⟨l1, l2, l3, l4⟩ := hl
  simp only [hk] at l4
  obtain ⟨_, hcl, hmf, hrr, hpd, _⟩ := l4
  have clE : ∀ e ∈ recs, e.isEff → clsOf c e.o.op = .eff := by
    intro e he hee
    obtain ⟨curN, _, _, _, l⟩ := chain_link N.ch e he
    obtain ⟨u, hu⟩ := hee
    simp only [hu] at l
    exact l.2.1
  have := hxm
  rw [I.split] at this
  rcases List.mem_append.1 this with h | h
  · left
    rcases I.lastA with h0 | ⟨A', e, hA, he⟩
    · rw [h0] at h; cases h
    rw [hA] at h
    have hxA : x ∈ A' := by
      rcases List.mem_append.1 h with h | h
      · exact h
      · simp only [List.mem_singleton] at h
        subst h
        obtain ⟨u, hu⟩ := he
        rw [hk] at hu; cases hu
    obtain ⟨A1, A2, e2⟩ := List.append_of_mem hxA
    have hem : e ∈ recs := by rw [I.split, hA]; simp
    have hDe : D e.i = true := I.doneA e (by rw [hA]; simp) (.inl he)
    have hpair := N.pair (A := A1) (B := A2) (C := B) (x := x) (y := e) (by rw [I.split, hA, e2]; simp) hc (.inl hDe) (by rw [hD]; simp)
    unfold pairOk at hpair
    simp only [hcl, clE e hem he, hmf, Bool.false_or, Bool.and_eq_true] at hpair
    have hpost := has_ok.1 hpair.2
    have hlk := allR_ok N.lk e hem
    obtain ⟨u, hu⟩ := he
    simp only [hu] at hlk
    have := allR_ok (allN_ok hlk _ hpost) x hxm
    simp only [hk] at this
    have hb : Nat.beq x.i x.i = true := by rw [Nat.beq_eq]
    rw [hb] at this
    have hs := sameRead_ok this
    have hch := I.chA
    rw [hA] at hch
    obtain ⟨_, _, _, _, c2⟩ := chain_append hch
    obtain ⟨_, _, _, _, _, _, e4, _⟩ := c2
    rw [e4]; exact hs
  · right
    obtain ⟨C, B2, eB⟩ := List.append_of_mem h
    have hch := I.chB
    rw [eB] at hch
    obtain ⟨tm1, s1, cur1, c1, c2⟩ := chain_append hch
    obtain ⟨e1, e2, e3, _⟩ := c2
    by_cases hC : ∀ y ∈ C, ¬ y.isEff
    · unfold pendV at hpd
      split at hpd
      case h_2 => cases hpd
      rename_i t ad hop
      split at hpd
      case h_2 => cases hpd
      rename_i b' o' hea
      split at hpd
      case h_2 => cases hpd
      rename_i ob' hble hget
      split at hpd
      case h_2 => cases hpd
      rename_i v' hv
      cases hpd
      rw [Nat.ble_eq] at hble
      have hcur : x.cur = sB := by rw [e3, (chain_cur c1 hC).1]
      rw [hcur] at hble
      have hmade := chain_made c1 hC b ob (by rw [← e2]; exact hget)
      rcases hmade with hold | ⟨y, hy, f, hyk, hyb⟩
      · exact absurd (I.R.lt hold) (by omega)
      have hyB : y ∈ B := by rw [eB]; simp [hy]
      have hyr : y ∈ recs := by rw [I.split]; simp [hyB]
      -- the operand says that it is made already
      have hop' : lookρ c ops.toList x.o x.tm ad = some (.ptr b o') := by
        rw [← lookρ_eq (c := c) (ops := ops.toList) (o := x.o) (tm := x.tm) ad (by rw [hop]; simp [Op.operands])]
        exact hea
      have hva := hρ _ _ hop'
      simp only [VR] at hva
      obtain ⟨cb, co, ce, hσ, _⟩ := hva
      have hσh := cut_ext _ _ hσ
      obtain ⟨y', g1, g2, g3, g4⟩ := I.far b _ hble hσh
      obtain rfl := alloc_num N hyr (by rw [I.split]; simp [g1]) ⟨ob, f, hyk⟩ g2 (by rw [hyb, g4])
      have hpn := I.pend y ob f hyB hyk g3
      rw [hyb] at hpn
      obtain ⟨cb', ce', obj, p1, p2, p3, p4, p5, p6⟩ := hpn.ex
      rw [hσh] at p1
      cases p1
      have hrw : ob.rw = true := by
        obtain ⟨_, _, _, _, ly⟩ := chain_link N.ch y hyr
        simp only [hyk] at ly
        exact allocV_rw ly.2.2.1
      have hblt : b < x.s.next := by
        have := ((chain_next c1).2 y hy).2
        obtain ⟨_, _, _, _, ly⟩ := chain_link N.ch y hyr
        simp only [hyk] at ly
        rw [ly.2.2.2.1] at this
        simp only [S.new] at this
        rw [e2]; omega
      refine ⟨⟨T.leaf.set b ob, max x.s.next sB.next⟩, ⟨fun b1 o1 h1 => ?_, fun b1 b2 o1 o2 c1 x1 x2 x3 x4 hne h1 h2 h3 h4 h5 => ?_, fun b1 h1 => by unfold cut; rw [if_neg (by simp only at h1; omega)], I.R.prot, fun b1 o1 c1 x1 x2 h1 h2 h3 => ?_, ?_, I.R.same, fun b1 o1 c1 x1 x2 h1 h2 h3 => ?_, I.R.rolt⟩, ?_⟩
      · simp only [T.get_set, T.get_leaf] at h1
        split at h1
        · rename_i e; subst e; cases h1
          exact p6 _ _ (cut_le (by omega)) p2
        · cases h1
      · simp only [T.get_set, T.get_leaf] at h1 h2
        split at h1
        · split at h2
          · omega
          · cases h2
        · cases h1
      · simp only [T.get_set, T.get_leaf] at h1
        split at h1
        · rename_i e; subst e; cases h1
          rw [hσ] at h3; cases h3
          exact p3
        · cases h1
      · refine ⟨by have := I.R.glob.1; simp only; omega, fun g hg => ?_⟩
        obtain ⟨ce2, h2⟩ := I.R.glob.2 g hg
        exact ⟨ce2, cut_le (Nat.le_max_right _ _) _ _ h2⟩
      · simp only [T.get_set, T.get_leaf] at h1
        split at h1
        · cases h1; rw [hrw] at h2; cases h2
        · cases h1
      · rw [hrr, ← hv]
        exact pureV_next (s := ⟨T.leaf.set b ob, 0⟩) (N := max x.s.next sB.next)
    · exfalso
      have first : ∀ L : List Rec, ¬ (∀ y ∈ L, ¬ y.isEff) → ∃ C1 e C2, L = C1 ++ e :: C2 ∧ e.isEff := by
        intro L
        induction L with
        | nil => intro h; exact (h fun y hy => by cases hy).elim
        | cons y L ih =>
          intro h
          by_cases hy : y.isEff
          · exact ⟨[], y, L, rfl, hy⟩
          · obtain ⟨C1, e, C2, h1, h2⟩ := ih fun hh => h fun z hz => by
              cases hz with
              | head => exact hy
              | tail _ hz => exact hh z hz
            exact ⟨y :: C1, e, C2, by rw [h1]; rfl, h2⟩
      obtain ⟨C1, e, C2, eC, he⟩ := first C hC
      have hem : e ∈ recs := by rw [I.split, eB, eC]; simp
      have hDe : D e.i = false := I.openB e (by rw [eB, eC]; simp) he
      have hpair := N.pair (A := A ++ C1) (B := C2) (C := B2) (x := e) (y := x) (by rw [I.split, eB, eC]; simp) hc (.inr hp) (by rw [hDe]; simp)
      unfold pairOk at hpair
      simp only [hcl, clE e hem he, hmf, Bool.false_or, Bool.and_eq_true] at hpair
      have hpre := has_ok.1 hpair.2
      have hlk := allR_ok N.lk x hxm
      simp only [hk] at hlk
      have := allR_ok (allN_ok hlk _ hpre) e hem
      obtain ⟨u, hu⟩ := he
      simp only [hu] at this
      have hb : Nat.beq e.i e.i = true := by rw [Nat.beq_eq]
      rw [hb] at this
      cases this
end
end Go.Ai
