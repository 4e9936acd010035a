/- Regions that draw their order: the whole. -/
import Derived.Test.YtdhljfjmalphiaaDoorAiDrawF
namespace Go.Ai
section
variable {P : Program} {c : Ctx} {pr : Prt} {w0 : World} {call : CallF} {n : Nat} {ops : Array Oper} {ri : RI} {recs : List Rec} {tm0 tmF : T V} {s0 sF curF : S} {σ0 : Sg}

/-- One operation that may be next. -/
theorem Inv.step [Val] (T : TOk P c) (F : FtOk P c) (X : ExtOk P c) (Cl : CallOk P c.ng call) (N : Canon c call n ops ri recs tm0 s0 tmF sF curF) {D : Nat → Bool} {A B : List Rec} {tmB : Go.Ai.T V} {sB : S} {σh : Sg} {a : Act} {w : World}
    (I : Inv c pr w0 call n ops recs tm0 s0 tmF sF curF σ0 D A B tmB sB σh a w) {A0 B0 : List Rec} {x : Rec}
    (hx : recs = A0 ++ x :: B0) (hc : Closed ops.toList (fun i => D i = true)) (hD : D x.i = false) (hp : ∀ e ∈ edgesOf x.o.after.toList, D e = true) {K : Act → World → Prop} {Q : Exit → Act → World → Prop}
    (hK : ∀ A' B' tmB' sB' σh' a' w', Inv c pr w0 call n ops recs tm0 s0 tmF sF curF σ0 (fun i => D i || i == x.i) A' B' tmB' sB' σh' a' w' → K a' w') : wpOp P ops Q x.i K a w := by
  obtain ⟨curN, hl⟩ := Inv.link N hx
  obtain ⟨l1, l2, l3, l4⟩ := hl
  have ho : ops[x.i]? = some x.o := by simpa using l1
  obtain ⟨hlk, hρ⟩ := Inv.look N I hx hc hD hp
  unfold wpOp
  rw [ho]
  simp only []
  rw [wanted_ok2 hlk]
  have hnE : ∀ k, x.kd = k → (∀ v, k ≠ .eff v) → ¬ x.isEff := fun k h h' ⟨v, hv⟩ => h' v (h ▸ hv)
  have hnA : ∀ k, x.kd = k → (∀ ob f, k ≠ .alloc ob f) → ¬ x.isAlloc := fun k h h' ⟨ob, f, hv⟩ => h' ob f (h ▸ hv)
  have Rw : Rel c.ng pr w0 (cut σh (max x.s.next sB.next)) { sB with next := max x.s.next sB.next } w := I.R.widen (cut_le (by omega)) (by omega) fun b hb => by unfold cut; rw [if_neg (by omega)]
  cases hk : x.kd with
  | skip =>
    simp only [hk] at l4
    rw [if_neg (by rw [l4.1]; simp)]
    exact hK _ _ _ _ _ _ _ (Inv.quiet N I hx hc hD (hnE _ hk (by simp)) (hnA _ hk (by simp)) l4.2.1 (by unfold Rec.val; rw [hk]; exact vr_undef))
  | free v =>
    simp only [hk] at l4
    obtain ⟨hw, _, hmf, hv, hsN, _⟩ := l4
    rw [if_pos hw]
    left
    rw [pureV_congr (lookρ_eq (c := c) (ops := ops.toList) (o := x.o) (tm := x.tm)), memFree_ok hmf (s' := { sB with next := max x.s.next sB.next })] at hv
    obtain ⟨u, hu, huv⟩ := pure_ok T Rw hρ hv
    unfold Oper.wp
    rw [hu]
    exact hK _ _ _ _ _ _ _ (Inv.quiet N I hx hc hD (hnE _ hk (by simp)) (hnA _ hk (by simp)) hsN (by unfold Rec.val; rw [hk]; exact huv))
  | pure r v =>
    have hr := Inv.reads N I hx hc hD hp hk
    simp only [hk] at l4
    obtain ⟨hw, _, hmf, hrr, _, hsN, _⟩ := l4
    rw [if_pos hw]
    left
    rw [hrr, pureV_congr (lookρ_eq (c := c) (ops := ops.toList) (o := x.o) (tm := x.tm)), ← pureV_next (N := max x.s.next sB.next)] at hr
    obtain ⟨u, hu, huv⟩ := pure_ok T Rw hρ hr
    unfold Oper.wp
    rw [hu]
    exact hK _ _ _ _ _ _ _ (Inv.quiet N I hx hc hD (hnE _ hk (by simp)) (hnA _ hk (by simp)) hsN (by unfold Rec.val; rw [hk]; exact huv))
  | pend b ob r v =>
    have hr := Inv.readsP N I hx hc hD hp hk hρ
    simp only [hk] at l4
    obtain ⟨hw, _, hmf, hrr, _, hsN, _⟩ := l4
    rw [if_pos hw]
    left
    have fin : ∃ u, (execOp a.eval x.o).run P w = .ok (.value u) w ∧ VR (cut σh (max x.s.next sB.next)) v u := by
      rcases hr with hr | ⟨s', Rs, hr⟩
      · rw [hrr, pureV_congr (lookρ_eq (c := c) (ops := ops.toList) (o := x.o) (tm := x.tm)), ← pureV_next (N := max x.s.next sB.next)] at hr
        exact pure_ok T Rw hρ hr
      · rw [hrr, pureV_congr (lookρ_eq (c := c) (ops := ops.toList) (o := x.o) (tm := x.tm))] at hr
        exact pure_ok T Rs hρ hr
    obtain ⟨u, hu, huv⟩ := fin
    unfold Oper.wp
    rw [hu]
    exact hK _ _ _ _ _ _ _ (Inv.quiet N I hx hc hD (hnE _ hk (by simp)) (hnA _ hk (by simp)) hsN (by unfold Rec.val; rw [hk]; exact huv))
  | alloc ob f =>
    simp only [hk] at l4
    obtain ⟨hw, _, ha, hsN, _⟩ := l4
    rw [if_pos hw]
    left
    rw [allocV_congr (lookρ_eq (c := c) (ops := ops.toList) (o := x.o) (tm := x.tm))] at ha
    obtain ⟨cv, w', σh', h1, h2⟩ := Inv.made N I hx hc hD hk (alloc_ok (w := w) T hρ ha)
    unfold Oper.wp
    rw [h1]
    exact hK _ _ _ _ _ _ _ h2
  | eff v =>
    have l4' := l4
    simp only [hk] at l4'
    rw [if_pos l4'.1]
    left
    exact Inv.effect T F X Cl N I hx hc hD hp ⟨v, hk⟩ hK

/-- When none is left. -/
theorem Inv.last [Val] (N : Canon c call n ops ri recs tm0 s0 tmF sF curF) {D : Nat → Bool} {A B : List Rec} {tmB : Go.Ai.T V} {sB : S} {σh : Sg} {a : Act} {w : World}
    (I : Inv c pr w0 call n ops recs tm0 s0 tmF sF curF σ0 D A B tmB sB σh a w) (hall : ∀ x ∈ recs, D x.i = true) {Q : Exit → Act → World → Prop}
    (hQ : ∀ a' w' σ', FR σ' n tmF a' → Rel c.ng pr w0 σ' sF w' → Ext σ0 σ' → Q .normal a' w') : Q .normal a w := by
  have hB : ∀ y, y ∈ B → y ∈ recs := fun y hy => by rw [I.split]; simp [hy]
  obtain ⟨R, hle, _⟩ := activate_all (N := sB.next) I.chB (fun y hy he => absurd (I.openB y hy he) (by rw [hall y (hB y hy)]; simp)) (fun y ob f hy hk => I.pend y ob f hy hk (hall y (hB y hy))) I.inj (Nat.le_refl _) I.R
  refine hQ a w _ ⟨I.size, fun t => ?_, I.defers⟩ R (I.e0.trans (cut_le (by omega)))
  have hf := I.fr t
  have heq : valD D t recs ((tm0.get t).getD .undef, 0) = valD (fun _ => true) t recs ((tm0.get t).getD .undef, 0) := valD_congr _ _ fun y hy _ => hall y hy
  rw [heq] at hf
  rw [chain_val (t := t) (b := 0) N.ch]
  refine VR.mono (cut_le ?_) _ _ hf
  have := valD_bound (D := fun _ => true) (t := t) recs ((tm0.get t).getD .undef, 0) (Nat.zero_le sF.next) fun y hy => ((chain_next N.ch).2 y hy).2
  omega

theorem edges_binds {e : Edge} {l : List Edge} (h : e.on ∈ edgesOf l → False) (he : e ∈ l) : Region.binds .any e = false := by
  induction l with
  | nil => cases he
  | cons x l ih =>
    cases he with
    | head =>
      unfold edgesOf at h
      unfold Region.binds
      split at h
      · rename_i hg; rw [hg]; rfl
      · rename_i hg; rw [hg]; rfl
      · exact (h (by simp)).elim
    | tail _ he =>
      refine ih (fun h' => h ?_) he
      unfold edgesOf
      split
      · exact h'
      · exact h'
      · exact List.mem_cons_of_mem _ h'
theorem binds_edges {l : List Edge} {i : Nat} (h : i ∈ edgesOf l) : ∃ e ∈ l, e.on = i ∧ Region.binds .any e = true := by
  induction l with
  | nil => cases h
  | cons x l ih =>
    unfold edgesOf at h
    split at h
    · obtain ⟨e, h1, h2⟩ := ih h; exact ⟨e, List.mem_cons_of_mem _ h1, h2⟩
    · obtain ⟨e, h1, h2⟩ := ih h; exact ⟨e, List.mem_cons_of_mem _ h1, h2⟩
    · rename_i h1 h2
      cases h with
      | head =>
        refine ⟨x, by simp, rfl, ?_⟩
        unfold Region.binds
        split
        · rename_i hg; exact (h1 _ hg).elim
        · rename_i hg; exact (h2 _ hg).elim
        · rfl
      | tail _ h => obtain ⟨e, h1, h2⟩ := ih h; exact ⟨e, List.mem_cons_of_mem _ h1, h2⟩

theorem draw_any [Val] (T : TOk P c) (F : FtOk P c) (X : ExtOk P c) (Cl : CallOk P c.ng call) (N : Canon c call n ops ri recs tm0 s0 tmF sF curF) {Q : Exit → Act → World → Prop}
    (hQ : ∀ a' w' σ', FR σ' n tmF a' → Rel c.ng pr w0 σ' sF w' → Ext σ0 σ' → Q .normal a' w') : ∀ (fuel : Nat) (listed : Array Bool) (A B : List Rec) (tmB : Go.Ai.T V) (sB : S) (σh : Sg) (a : Act) (w : World),
    listed.size = ops.size → listed.toList.count false ≤ fuel → Closed ops.toList (fun i => listed.getD i false = true) →
    Inv c pr w0 call n ops recs tm0 s0 tmF sF curF σ0 (fun i => listed.getD i false) A B tmB sB σh a w → wpAny P .any ops Q fuel listed a w := by
  intro fuel
  induction fuel with
  | zero =>
    intro listed A B tmB sB σh a w hs hf hc I
    have hall : ∀ i, i < ops.size → listed.getD i true = true ∧ listed.getD i false = true := by
      intro i hi
      have hlt : i < listed.size := by omega
      have : listed[i]? = some true := by
        rw [Array.getElem?_eq_getElem hlt]
        cases e : listed[i] with
        | true => rfl
        | false =>
          have : false ∈ listed.toList := by rw [← e]; simp
          have := List.count_pos_iff.2 this
          omega
      simp [Array.getD_eq_getD_getElem?, this]
    have hnil : Region.ready .any ops listed = [] := by
      refine List.eq_nil_iff_forall_not_mem.2 fun i hi => ?_
      rw [mem_ready] at hi
      obtain ⟨h0, o, ho, _⟩ := hi
      have hlt : i < ops.size := (Array.getElem?_eq_some_iff.1 ho).1
      rw [(hall i hlt).1] at h0; cases h0
    refine ⟨hnil, I.last N (fun x hx => ?_) hQ⟩
    obtain ⟨curN, hl⟩ := chain_link N.ch x hx
    have : ops[x.i]? = some x.o := by simpa using hl.1
    exact (hall x.i (Array.getElem?_eq_some_iff.1 this).1).2
  | succ fuel ih =>
    intro listed A B tmB sB σh a w hs hf hc I
    have hgd : ∀ i, i < ops.size → listed.getD i true = listed.getD i false := by
      intro i hi
      have hlt : i < listed.size := by omega
      simp [Array.getD_eq_getD_getElem?, Array.getElem?_eq_getElem hlt]
    refine ⟨fun hnil => I.last N ?_ hQ, fun i hi => ?_⟩
    · have key : ∀ (A0 B0 : List Rec), recs = A0 ++ B0 → ∀ x ∈ A0, listed.getD x.i false = true := by
        intro A0
        induction hl : A0.length generalizing A0 with
        | zero => intro B0 _ x hx; have := List.length_eq_zero_iff.1 hl; subst this; cases hx
        | succ k ihk =>
          intro B0 h x hx
          obtain ⟨L, y, rfl⟩ : ∃ L y, A0 = L ++ [y] := by
            rcases List.eq_nil_or_concat A0 with h0 | ⟨L, y, h0⟩
            · rw [h0] at hl; cases hl
            · exact ⟨L, y, by rw [h0]; simp⟩
          have hL := ihk L (by simpa using hl) (y :: B0) (by rw [h]; simp)
          rcases List.mem_append.1 hx with hx | hx
          · exact hL x hx
          · simp only [List.mem_singleton] at hx
            subst hx
            cases e : listed.getD x.i false with
            | true => rfl
            | false =>
              exfalso
              obtain ⟨m, q1, _, _, q4, _⟩ := N.facts (A := L) (x := x) (B := B0) (by rw [h]; simp)
              have ho : ops[x.i]? = some x.o := by simpa using q1
              have hlt : x.i < ops.size := (Array.getElem?_eq_some_iff.1 ho).1
              have : x.i ∈ Region.ready .any ops listed := by
                rw [mem_ready]
                refine ⟨by rw [hgd x.i hlt]; exact e, x.o, ho, fun ed he hb => ?_⟩
                by_cases hh : ed.on ∈ edgesOf x.o.after.toList
                · obtain ⟨z, hz, hzi⟩ := List.mem_map.1 (q4 _ hh)
                  rw [← hzi]; exact hL z hz
                · rw [edges_binds hh (by simpa using he)] at hb; cases hb
              rw [hnil] at this; cases this
      exact fun x hx => key recs [] (by simp) x hx
    · rw [mem_ready] at hi
      obtain ⟨h0, o, ho, hedges⟩ := hi
      have hlt : i < ops.size := (Array.getElem?_eq_some_iff.1 ho).1
      have hlt' : i < listed.size := by omega
      rw [hgd i hlt] at h0
      obtain ⟨A0, x, B0, hx, hxi⟩ := N.cover hlt
      subst hxi
      obtain ⟨curN, hl⟩ := Inv.link N hx
      have hxo : o = x.o := by
        have : ops[x.i]? = some x.o := by simpa using hl.1
        rw [ho] at this; cases this; rfl
      subst hxo
      have hset : ∀ j, (listed.setIfInBounds x.i true).getD j false = (listed.getD j false || j == x.i) := by
        intro j
        by_cases e : j = x.i
        · subst e
          simp [Array.getD_eq_getD_getElem?, hlt']
        · rw [getD_set_ne false (Ne.symm e)]
          simp [e]
      have hpe : ∀ e ∈ edgesOf x.o.after.toList, listed.getD e false = true := by
        intro e he
        obtain ⟨ed, h1, h2, h3⟩ := binds_edges he
        rw [← h2]; exact hedges ed (by simpa using h1) h3
      refine I.step T F X Cl N hx hc h0 hpe fun A' B' tmB' sB' σh' a' w' I' => ih _ A' B' tmB' sB' σh' a' w' (by simpa using hs) ?_ ?_ ?_
      · rw [Array.toList_setIfInBounds, List.count_set (by simpa using hlt')]
        have hx0 : listed.toList[x.i] = false := by
          have := h0
          simp only [Array.getD_eq_getD_getElem?, Array.getElem?_eq_getElem hlt', Option.getD_some] at this
          simpa using this
        have hpos : 0 < listed.toList.count false := List.count_pos_iff.2 (by rw [← hx0]; exact List.getElem_mem _)
        have hcnt : listed.toList.count false = Array.count false listed := by simp
        rw [hcnt] at hf hpos
        simp [hx0]
        omega
      · intro j oj hj hDj e he
        rw [hset] at hDj ⊢
        simp only [Bool.or_eq_true, beq_iff_eq] at hDj ⊢
        rcases hDj with h | h
        · exact .inl (hc j oj hj h e he)
        · subst h
          have : oj = x.o := by
            have h1 := hl.1
            rw [hj] at h1; cases h1; rfl
          subst this
          exact .inl (hpe e he)
      · have : (fun i => (listed.setIfInBounds x.i true).getD i false) = fun i => listed.getD i false || i == x.i := funext hset
        rw [this]; exact I'

/-- A region that draws its order. -/
theorem draw_ok [Val] (hm : P.follows .mixedOrders = true) (T : TOk P c) (F : FtOk P c) (X : ExtOk P c) (Cl : CallOk P c.ng call) (hri : riOk c ops.toList ri = true) {id : Nat} {tm tm' : Go.Ai.T V} {s s' : S} {σ : Sg} {a : Act} {w : World}
    (h : drawV c call n ops ri tm s = some (tm', s')) (R : Rel c.ng pr w0 σ s w) (hf : FR σ n tm a) {Q : Exit → Act → World → Prop}
    (hQ : ∀ a' w' σ', FR σ' n tm' a' → Rel c.ng pr w0 σ' s' w' → Ext σ σ' → Q .normal a' w') : (Code.region id ops true).wp P Q a w := by
  unfold drawV at h
  split at h
  case h_2 => cases h
  rename_i recs tm1 s1 hrec
  split at h
  case h_2 => cases h
  rename_i hlk
  cases h
  obtain ⟨⟨curF, hch⟩, hord⟩ := recs_chain hrec
  have N : Canon c call n ops ri recs tm s tm' s' curF := ⟨hch, hord, hri, hlk⟩
  have hcut : ∀ k, s.next ≤ k → cut σ k = σ := by
    intro k hk; funext b; unfold cut
    by_cases e : b < k
    · rw [if_pos e]
    · rw [if_neg e, R.fresh b (by omega)]
  refine wp_region_any hm (draw_any T F X Cl N (σ0 := σ) (pr := pr) (w0 := w0) hQ ops.size _ [] recs tm s σ a _ (by simp) (by simp) ?_ ?_)
  · intro i o ho hD e he
    simp [Array.getD_eq_getD_getElem?, Array.getElem?_replicate] at hD
    split at hD <;> simp at hD
  · have hD0 : ∀ i, (Array.replicate ops.size false).getD i false = false := by
      intro i
      simp only [Array.getD_eq_getD_getElem?, Array.getElem?_replicate]
      split <;> rfl
    have hv0 : ∀ t, valD (fun i => (Array.replicate ops.size false).getD i false) t recs ((tm.get t).getD .undef, 0) = ((tm.get t).getD .undef, 0) := fun t => valD_none _ _ fun y _ _ => hD0 _
    refine ⟨rfl, ⟨rfl, rfl, rfl⟩, hch, fun x hx => (by cases hx), fun x _ _ => hD0 _, .inl rfl, by rw [hcut _ (Nat.le_refl _)]; exact R.drew, fun b v hb hv => ?_, fun x ob f _ _ hd => ?_, fun b b' cb co ce co' ce' hb _ _ h4 => ?_, fun t => ?_, hf.size, hf.defers, by rw [hcut _ (Nat.le_refl _)]; exact Ext.refl _⟩
    · rw [R.fresh b hb] at hv; cases hv
    · rw [hD0] at hd; cases hd
    · rw [R.fresh b hb] at h4; cases h4
    · rw [hv0, hcut _ (by simp)]; exact hf.get t
end
end Go.Ai
