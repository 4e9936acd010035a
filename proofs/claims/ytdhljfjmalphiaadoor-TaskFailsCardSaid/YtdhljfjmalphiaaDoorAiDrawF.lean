/- Regions that draw their order: effects, and the whole. -/
import Derived.Test.YtdhljfjmalphiaaDoorAiDrawE
import Derived.Orders
namespace Go.Ai
section
variable {P : Program} {c : Ctx} {pr : Prt} {w0 : World} {call : CallF} {n : Nat} {ops : Array Oper} {ri : RI} {recs : List Rec} {tm0 tmF : T V} {s0 sF curF : S} {σ0 : Sg}
  {D : Nat → Bool} {A B : List Rec} {tmB : T V} {sB : S} {σh : Sg} {a : Act} {w : World} {A0 B0 : List Rec} {x : Rec}

theorem Rel.inner [Val] {ng : Nat} {σ : Sg} {s : S} {X : Nat → Prop} (R : Rel ng pr w0 σ s w) (hX : ∀ cb, X cb → cb < w.heap.size) (haw : ∀ b o cb co ce, s.h.get b = some o → o.rw = true → σ b = some (cb, co, ce) → ¬ X cb) :
    Rel ng (fun cb => pr.1 cb ∨ X cb, pr.2) w σ s w :=
  ⟨R.obj, R.disj, R.fresh, fun cb h => ⟨h.elim (fun h => (R.prot cb h).1) (hX cb), rfl⟩, fun b o cb co ce h1 h2 h3 h => h.elim (R.away b o cb co ce h1 h2 h3) (haw b o cb co ce h1 h2 h3), R.glob, ⟨rfl, rfl, rfl, Nat.le_refl _⟩,
    R.ro, fun cb h => Nat.lt_of_lt_of_le (R.rolt cb h) R.same.2.2.2⟩
theorem Rel.outer [Val] {ng : Nat} {σ σ' : Sg} {s s' : S} {w' : World} {X : Nat → Prop} (R : Rel ng pr w0 σ s w) (R' : Rel ng (fun cb => pr.1 cb ∨ X cb, pr.2) w σ' s' w') : Rel ng pr w0 σ' s' w' := by
  obtain ⟨a1, a2, a3, a4⟩ := R.same
  obtain ⟨b1, b2, b3, b4⟩ := R'.same
  refine ⟨R'.obj, R'.disj, R'.fresh, fun cb h => ?_, fun b o cb co ce h1 h2 h3 h => R'.away b o cb co ce h1 h2 h3 (.inl h), R'.glob, ⟨b1.trans a1, b2.trans a2, b3.trans a3, Nat.le_trans a4 b4⟩, R'.ro, R.rolt⟩
  obtain ⟨q1, q2⟩ := R'.prot cb (.inl h)
  exact ⟨q1, q2.trans (R.prot cb h).2⟩

/-- An effect: all blocks that come ahead of it are made, and it is the first effect that is left. -/
theorem Inv.effect [Val] (T : TOk P c) (F : FtOk P c) (X : ExtOk P c) (Cl : CallOk P c.ng call) (N : Canon c call n ops ri recs tm0 s0 tmF sF curF) (I : Inv c pr w0 call n ops recs tm0 s0 tmF sF curF σ0 D A B tmB sB σh a w)
    (hx : recs = A0 ++ x :: B0) (hc : Closed ops.toList (fun i => D i = true)) (hD : D x.i = false) (hp : ∀ e ∈ edgesOf x.o.after.toList, D e = true)
    (he : x.isEff) {K : Act → World → Prop} {Q : Exit → Act → World → Prop}
    (hK : ∀ A' B' tmB' sB' σh' a' w', Inv c pr w0 call n ops recs tm0 s0 tmF sF curF σ0 (fun i => D i || i == x.i) A' B' tmB' sB' σh' a' w' → K a' w') : x.o.wp P a w K Q := by
  have hxm : x ∈ recs := by rw [hx]; simp
  have hB : ∀ y, y ∈ B → y ∈ recs := fun y hy => by rw [I.split]; simp [hy]
  have hxB : x ∈ B := by
    have := hxm
    rw [I.split] at this
    rcases List.mem_append.1 this with h | h
    · rw [I.doneA x h (.inl he)] at hD; cases hD
    · exact h
  obtain ⟨C, B2, eB⟩ := List.append_of_mem hxB
  obtain ⟨v, hk⟩ := he
  have hcls : ∀ y ∈ recs, (y.isEff → clsOf c y.o.op = .eff) ∧ (y.isAlloc → clsOf c y.o.op = .alloc) := by
    intro y hy
    obtain ⟨curN, _, _, _, l⟩ := chain_link N.ch y hy
    refine ⟨fun ⟨u, hu⟩ => ?_, fun ⟨ob, f, hu⟩ => ?_⟩
    · simp only [hu] at l; exact l.2.1
    · simp only [hu] at l; exact l.2.1
  have hclx := (hcls x hxm).1 ⟨v, hk⟩
  have hpairs : ∀ y ∈ C, D y.i = false → pairOk c ops.toList ri y.i y.o x.i x.o = true := by
    intro y hy hDy
    obtain ⟨C1, C2, e⟩ := List.append_of_mem hy
    exact N.pair (A := A ++ C1) (B := C2) (C := B2) (x := y) (y := x) (by rw [I.split, eB, e]; simp) hc (.inr hp) (by rw [hDy]; simp)
  have hCm : ∀ y ∈ C, y ∈ recs := fun y hy => hB y (by rw [eB]; simp [hy])
  have hCe : ∀ y ∈ C, ¬ y.isEff := by
    intro y hy hye
    have := hpairs y hy (I.openB y (by rw [eB]; simp [hy]) hye)
    unfold pairOk at this
    simp [(hcls y (hCm y hy)).1 hye, hclx] at this
  have hCa : ∀ y ∈ C, y.isAlloc → D y.i = true := by
    intro y hy hya
    cases e : D y.i with
    | true => rfl
    | false =>
      have := hpairs y hy e
      unfold pairOk at this
      simp [(hcls y (hCm y hy)).2 hya, hclx] at this
  have hchB := I.chB
  rw [eB] at hchB
  obtain ⟨tm1, s1, cur1, c1, c2⟩ := chain_append hchB
  obtain ⟨e1, e2, e3, curN, hl, c3⟩ := c2
  obtain ⟨l1, l2, l3, l4⟩ := hl
  simp only [hk] at l4
  obtain ⟨hw, _, heff, hcurN⟩ := l4
  subst e1; subst e2; subst hcurN
  obtain ⟨R1, hle, hP⟩ := activate_all (N := sB.next) c1 hCe (fun y ob f hy hk' => I.pend y ob f (by rw [eB]; simp [hy]) hk' (hCa y hy ⟨ob, f, hk'⟩)) I.inj (Nat.le_refl _) I.R
  have hle : sB.next ≤ x.s.next := by omega
  have hB2 : ∀ y ∈ B2, y ∈ B := fun y hy => by rw [eB]; simp [hy]
  have hnB2 : ∀ y ∈ B2, x.sN.next ≤ y.s.next := fun y hy => ((chain_next c3).2 y hy).1
  have hpB2 : ∀ y ob f, y ∈ B2 → y.kd = .alloc ob f → D y.i = true → Pend pr w0 σh x.s w y.s.next ob := fun y ob f hy hk' hDy =>
    hP _ _ (Nat.le_trans l3 (hnB2 y hy)) (I.pend y ob f (hB2 y hy) hk' hDy)
  -- blocks made ahead of their turn stay as they are
  let Y : Nat → Prop := fun cb => ∃ y ob f, y ∈ B2 ∧ y.kd = .alloc ob f ∧ D y.i = true ∧ ∃ co ce, σh y.s.next = some (cb, co, ce)
  have hlt : ∀ {cb : Nat} {o : Obj}, w.heap[cb]? = some o → cb < w.heap.size := fun h => (Array.getElem?_eq_some_iff.1 h).1
  have R2 : Rel c.ng (fun cb => pr.1 cb ∨ Y cb, pr.2) w (cut σh x.s.next) x.s w := by
    refine R1.inner (fun cb hY => ?_) fun b o cb co ce g1 g2 g3 hY => ?_
    · obtain ⟨y, ob, f, y1, y2, y3, co, ce, y4⟩ := hY
      obtain ⟨cb', ce', obj, h1, h2, _⟩ := (hpB2 y ob f y1 y2 y3).ex
      rw [y4] at h1; cases h1
      exact hlt h2
    · obtain ⟨y, ob, f, y1, y2, y3, co', ce', y4⟩ := hY
      obtain ⟨cb', ce'', obj, h1, h2, h3, h4, h5, h6⟩ := (hpB2 y ob f y1 y2 y3).ex
      rw [y4] at h1; cases h1
      exact h5 b o co ce g1 (cut_ext _ _ g3)
  obtain ⟨_, hρ⟩ := Inv.look N I hx hc hD hp
  have heff0 := heff
  rw [show max x.s.next sB.next = x.s.next by omega] at hρ
  rw [effV_congr (lookρ_eq (c := c) (ops := ops.toList) (o := x.o) (tm := x.tm))] at heff
  refine eff_ok (a := a) T F X Cl R2 hρ heff K Q fun cv w' σ' hv R' hE => hK (A ++ C ++ [x]) B2 x.tmN x.sN (fun b => if b < x.sN.next then σ' b else σh b) _ w' ?_
  have R3 := R1.outer R'
  let σh' : Sg := fun b => if b < x.sN.next then σ' b else σh b
  have hlow : ∀ b, b < x.sN.next → σh' b = σ' b := fun b hb => by simp [σh', hb]
  have hhigh : ∀ b, x.sN.next ≤ b → σh' b = σh b := fun b hb => by simp only [σh']; rw [if_neg (by omega)]
  have hcut : cut σh' x.sN.next = σ' := by
    funext b; unfold cut
    by_cases e : b < x.sN.next
    · rw [if_pos e, hlow b e]
    · rw [if_neg e, R'.fresh b (by omega)]
  have hmid : ∀ b u, x.s.next ≤ b → σh b = some u → ∃ y ∈ B2, y.isAlloc ∧ D y.i = true ∧ b = y.s.next := by
    intro b u hb hu
    obtain ⟨y, h1, h2, h3, h4⟩ := I.far b u (by omega) hu
    rw [eB] at h1
    rcases List.mem_append.1 h1 with h | h
    · have := (chain_next c1).2 y h
      obtain ⟨ob, f, hk'⟩ := h2
      obtain ⟨_, _, _, _, l⟩ := chain_link N.ch y (hCm y h)
      simp only [hk'] at l
      rw [l.2.2.2.1] at this
      simp only [S.new] at this
      omega
    · cases h with
      | head => rw [hD] at h3; cases h3
      | tail _ h => exact ⟨y, h, h2, h3, h4⟩
  have hEh : Ext σh σh' := by
    intro b u hu
    by_cases h1 : b < x.s.next
    · rw [hlow b (by omega)]; exact hE _ _ (by rw [cut_lt h1]; exact hu)
    · obtain ⟨y, y1, _, _, y4⟩ := hmid b u (by omega) hu
      rw [hhigh b (by rw [y4]; exact hnB2 y y1)]; exact hu
  obtain ⟨f1, f2⟩ := Inv.put N (k' := x.sN.next) (σh' := σh') hx hc hD I.fr I.size hEh (by omega) (cv := cv) (by rw [Nat.max_self, hcut]; unfold Rec.val; rw [hk]; exact hv)
  have hDx : (D x.i || x.i == x.i) = true := by simp
  refine ⟨by rw [I.split, eB]; simp, ?_, c3, fun y hy h => ?_, fun y hy h => ?_, .inr ⟨A ++ C, x, rfl, ⟨v, hk⟩⟩, by rw [hcut]; exact R3, fun b u hb hu => ?_, fun y ob f hy hk' hd => ?_, fun b b' cb co ce1 co' ce' h1 h2 h3 h4 h5 => ?_, f1, f2, ?_, ?_⟩
  · have join : ∀ {L M : List Rec} {t : Go.Ai.T V} {s cur : S} {t1 : Go.Ai.T V} {s1 cur1 : S} {t2 : Go.Ai.T V} {s2 cur2 : S}, Chain c call n ops L t s cur t1 s1 cur1 → Chain c call n ops M t1 s1 cur1 t2 s2 cur2 → Chain c call n ops (L ++ M) t s cur t2 s2 cur2 := by
      intro L
      induction L with
      | nil => intro M t s cur t1 s1 cur1 t2 s2 cur2 h1 h2; obtain ⟨rfl, rfl, rfl⟩ := h1; exact h2
      | cons y L ih =>
        intro M t s cur t1 s1 cur1 t2 s2 cur2 h1 h2
        obtain ⟨p1, p2, p3, cN, p4, p5⟩ := h1
        exact ⟨p1, p2, p3, cN, p4, ih p5 h2⟩
    refine join (join I.chA c1) ⟨rfl, rfl, e3, x.sN, ⟨l1, l2, l3, by simp only [hk]; exact ⟨hw, hclx, heff0, trivial⟩⟩, rfl, rfl, rfl⟩
  · rcases List.mem_append.1 hy with hy | hy
    · rcases List.mem_append.1 hy with hy | hy
      · simp [I.doneA y hy h]
      · rcases h with h | h
        · exact (hCe y hy h).elim
        · simp [hCa y hy h]
    · simp only [List.mem_singleton] at hy; subst hy; exact hDx
  · simp only [I.openB y (hB2 y hy) h, Bool.false_or, beq_eq_false_iff_ne]
    intro e
    -- `x` stands once
    obtain ⟨B3, B4, e5⟩ := List.append_of_mem hy
    obtain ⟨m', _, _, q', _⟩ := N.facts (A := A ++ C ++ x :: B3) (x := y) (B := B4) (by rw [I.split, eB, e5]; simp)
    exact q' (by rw [e]; simp)
  · replace hu : σh' b = some u := hu
    rw [hhigh b hb] at hu
    obtain ⟨y, y1, y2, y3, y4⟩ := hmid b u (by omega) hu
    exact ⟨y, y1, y2, by simp [y3], y4⟩
  · simp only [Bool.or_eq_true, beq_iff_eq] at hd
    have hd : D y.i = true := by
      rcases hd with hd | hd
      · exact hd
      · have := N.inj (hB y (hB2 y hy)) hxm hd
        rw [this, hk] at hk'; cases hk'
    obtain ⟨cb, ce', obj, h1, h2, h3, h4, h5, h6⟩ := (hpB2 y ob f hy hk' hd).ex
    have hY : Y cb := ⟨y, ob, f, hy, hk', hd, 0, ce', h1⟩
    refine ⟨⟨cb, ce', obj, hEh _ _ h1, by rw [(R'.prot cb (.inr hY)).2]; exact h2, h3, h4, fun b' o' co' ce'' g1 g2 => ?_, fun σ'' w'' hh hw' => h6 σ'' w'' ((cut_mono hEh).trans hh) hw'⟩⟩
    replace g2 : σh' b' = some (cb, co', ce'') := g2
    rw [hlow b' (R3.lt g1)] at g2
    cases hrw : o'.rw with
    | true => exact R'.away b' o' cb co' ce'' g1 hrw g2 (.inr hY)
    | false =>
      have := R1.rolt _ (R'.ro b' o' cb co' ce'' g1 hrw g2)
      omega
  · replace h4 : σh' b = some (cb, co, ce1) := h4
    replace h5 : σh' b' = some (cb, co', ce') := h5
    rw [hhigh b h1] at h4
    rw [hhigh b' h2] at h5
    exact I.inj b b' cb co ce1 co' ce' (by omega) (by omega) h3 h4 h5
  · cases x.o.dst <;> exact I.defers
  · rw [hcut]
    refine I.e0.trans fun b u hu => hE _ _ (cut_le hle _ _ hu)
end
end Go.Ai
