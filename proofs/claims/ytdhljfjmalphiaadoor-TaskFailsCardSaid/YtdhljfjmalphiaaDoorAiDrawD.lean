/- Regions that draw their order: what holds while the operations are done, in whichever order. -/
import Derived.Test.YtdhljfjmalphiaaDoorAiDrawC
namespace Go.Ai

def Rec.isAlloc (x : Rec) : Prop := ∃ ob f, x.kd = .alloc ob f

theorem Rel.widen [Val] {ng : Nat} {pr : Prt} {w0 w : World} {σ σ' : Sg} {s : S} {N : Nat} (R : Rel ng pr w0 σ s w) (he : Ext σ σ') (hN : s.next ≤ N) (hf : ∀ b, N ≤ b → σ' b = none) : Rel ng pr w0 σ' { s with next := N } w := by
  have same : ∀ b o v, s.h.get b = some o → σ' b = some v → σ b = some v := by
    intro b o v hb hv
    obtain ⟨cb, co, ce, h1, _⟩ := (R.obj b o hb).block
    rw [he _ _ h1] at hv; rw [h1, hv]
  refine ⟨fun b o hb => (R.obj b o hb).mono he, fun b b' o o' cb co ce co' ce' hne h1 h2 h3 h4 h5 => R.disj b b' o o' cb co ce co' ce' hne h1 h2 h3 (same _ _ _ h1 h4) (same _ _ _ h2 h5),
    hf, R.prot, fun b o cb co ce h1 h2 h3 => R.away b o cb co ce h1 h2 (same _ _ _ h1 h3), ⟨Nat.le_trans R.glob.1 hN, fun g hg => ?_⟩, R.same, fun b o cb co ce h1 h2 h3 => R.ro b o cb co ce h1 h2 (same _ _ _ h1 h3), R.rolt⟩
  obtain ⟨ce, h⟩ := R.glob.2 g hg
  exact ⟨ce, he _ _ h⟩

/-- A block that is made already, and not yet taken into the state. -/
structure Pend [Val] (pr : Prt) (w0 : World) (σh : Sg) (s : S) (w : World) (b : Nat) (ob : O) : Prop where
  ex : ∃ cb ce obj, σh b = some (cb, 0, ce) ∧ w.heap[cb]? = some obj ∧ ¬ pr.1 cb ∧ w0.heap.size ≤ cb ∧ (∀ b' o' co' ce', s.h.get b' = some o' → σh b' = some (cb, co', ce') → False) ∧
    ∀ (σ' : Sg) (w'' : World), Ext (cut σh (b + 1)) σ' → w''.heap[cb]? = some obj → OR σ' w'' b ob

theorem Pend.activate [Val] {ng : Nat} {pr : Prt} {w0 w : World} {σh : Sg} {s : S} {ob : O} (R : Rel ng pr w0 (cut σh s.next) s w) (hrw : ob.rw = true) (p : Pend pr w0 σh s w s.next ob) :
    Rel ng pr w0 (cut σh (s.next + 1)) (s.new ob) w := by
  obtain ⟨cb, ce, obj, h1, h2, h3, h4, h5, h6⟩ := p.ex
  have hE : Ext (cut σh s.next) (cut σh (s.next + 1)) := cut_le (Nat.le_succ _)
  have hnew : cut σh (s.next + 1) s.next = some (cb, 0, ce) := by rw [cut_lt (Nat.lt_succ_self _)]; exact h1
  have same : ∀ b o v, s.h.get b = some o → cut σh (s.next + 1) b = some v → cut σh s.next b = some v := by
    intro b o v hb hv
    obtain ⟨cb, co, ce, h1, _⟩ := (R.obj b o hb).block
    rw [hE _ _ h1] at hv; rw [h1, hv]
  refine ⟨fun b o hb => ?_, fun b b' o o' c1 co ce1 co' ce' hne g1 g2 g3 g4 g5 => ?_, fun b hb => ?_, R.prot, fun b o c1 co ce1 g1 g2 g3 => ?_, ⟨by have := R.glob.1; simp only [S.new]; omega, fun g hg => ?_⟩, R.same, fun b o c1 co ce1 g1 g2 g3 => ?_, R.rolt⟩
  · simp only [S.new, T.get_set] at hb
    by_cases e : b = s.next
    · subst e; rw [if_pos rfl] at hb; cases hb; exact h6 _ _ (Ext.refl _) h2
    · rw [if_neg e] at hb; exact (R.obj b o hb).mono hE
  · simp only [S.new, T.get_set] at g1 g2
    by_cases e : b = s.next
    · subst e
      rw [if_neg (Ne.symm hne)] at g2
      rw [hnew] at g4; cases g4
      exact h5 b' o' co' ce' g2 (cut_ext _ _ g5)
    · rw [if_neg e] at g1
      by_cases e' : b' = s.next
      · subst e'
        rw [hnew] at g5; cases g5
        exact h5 b o co ce1 g1 (cut_ext _ _ g4)
      · rw [if_neg e'] at g2
        exact R.disj b b' o o' c1 co ce1 co' ce' hne g1 g2 g3 (same _ _ _ g1 g4) (same _ _ _ g2 g5)
  · simp only [S.new] at hb
    unfold cut; rw [if_neg (by omega)]
  · simp only [S.new, T.get_set] at g1
    by_cases e : b = s.next
    · subst e; rw [hnew] at g3; cases g3; exact h3
    · rw [if_neg e] at g1; exact R.away b o c1 co ce1 g1 g2 (same _ _ _ g1 g3)
  · obtain ⟨ce', h⟩ := R.glob.2 g hg
    exact ⟨ce', hE _ _ h⟩
  · simp only [S.new, T.get_set] at g1
    by_cases e : b = s.next
    · subst e; rw [if_pos rfl] at g1; cases g1; rw [hrw] at g2; cases g2
    · rw [if_neg e] at g1; exact R.ro b o c1 co ce1 g1 g2 (same _ _ _ g1 g3)
theorem Pend.new [Val] {pr : Prt} {w0 w : World} {σh : Sg} {s : S} {b : Nat} {ob o : O} (p : Pend pr w0 σh s w b ob) (hi : ∀ cb co ce ce', σh s.next = some (cb, co, ce) → σh b = some (cb, 0, ce') → False) :
    Pend pr w0 σh (s.new o) w b ob := by
  obtain ⟨cb, ce, obj, h1, h2, h3, h4, h5, h6⟩ := p.ex
  refine ⟨⟨cb, ce, obj, h1, h2, h3, h4, fun b' o' co' ce' g1 g2 => ?_, h6⟩⟩
  simp only [S.new, T.get_set] at g1
  by_cases e : b' = s.next
  · subst e; exact hi _ _ _ _ g2 h1
  · rw [if_neg e] at g1; exact h5 b' o' co' ce' g1 g2

section
variable {P : Program} {c : Ctx} {pr : Prt} {w0 : World} {call : CallF} {n : Nat} {ops : Array Oper}

/-- Blocks that were made ahead of their turn are taken in. -/
theorem activate_all [Val] {σh : Sg} {w : World} {ng : Nat} {N : Nat} : ∀ {C : List Rec} {tm : T V} {s cur : S} {tm1 : T V} {s1 cur1 : S}, Chain c call n ops C tm s cur tm1 s1 cur1 → (∀ x ∈ C, ¬ x.isEff) →
    (∀ x ob f, x ∈ C → x.kd = .alloc ob f → Pend pr w0 σh s w x.s.next ob) →
    (∀ b b' cb co ce co' ce', N ≤ b → N ≤ b' → b ≠ b' → σh b = some (cb, co, ce) → σh b' = some (cb, co', ce') → False) → N ≤ s.next →
    Rel ng pr w0 (cut σh s.next) s w → Rel ng pr w0 (cut σh s1.next) s1 w ∧ s1.next = s.next + (s1.next - s.next) ∧
      ∀ b ob, s1.next ≤ b → Pend pr w0 σh s w b ob → Pend pr w0 σh s1 w b ob
  | [], tm, s, cur, tm1, s1, cur1, h, _, _, _, _, R => by
    obtain ⟨rfl, rfl, rfl⟩ := h
    exact ⟨R, by omega, fun b ob _ p => p⟩
  | x :: C, tm, s, cur, tm1, s1, cur1, h, hn, hp, hi, hN, R => by
    obtain ⟨h1, h2, h3, curN, h4, h5⟩ := h
    obtain ⟨l1, l2, l3, l4⟩ := h4
    have hmono := (chain_next h5).1
    have keep : x.sN = x.s → Rel ng pr w0 (cut σh s1.next) s1 w ∧ s1.next = s.next + (s1.next - s.next) ∧ ∀ b ob, s1.next ≤ b → Pend pr w0 σh s w b ob → Pend pr w0 σh s1 w b ob := by
      intro e
      rw [e, h2] at h5
      exact activate_all h5 (fun y hy => hn y (by simp [hy])) (fun y ob f hy => hp y ob f (by simp [hy])) hi hN R
    cases hk : x.kd <;> simp only [hk] at l4
    case skip => exact keep l4.2.1
    case free => exact keep l4.2.2.2.2.1
    case pure => exact keep l4.2.2.2.2.2.1
    case eff => exact (hn x (by simp) ⟨_, hk⟩).elim
    case pend => exact keep l4.2.2.2.2.2.1
    case alloc ob f =>
      obtain ⟨_, _, ha, e, _⟩ := l4
      have px := hp x ob f (by simp) hk
      rw [h2] at px e
      rw [e] at h5 hmono
      have R' := Pend.activate R (allocV_rw ha) px
      have hx := px.ex
      have step : ∀ b ob', s.next + 1 ≤ b → Pend pr w0 σh s w b ob' → Pend pr w0 σh (s.new ob) w b ob' := fun b ob' hb p =>
        p.new fun cb co ce ce' q1 q2 => hi s.next b cb co ce 0 ce' hN (by omega) (by omega) q1 q2
      obtain ⟨q1, q2, q3⟩ := activate_all (N := N) h5 (fun y hy => hn y (by simp [hy])) (fun y ob' f' hy hk' => step _ _ ((chain_next h5).2 y hy).1 (hp y ob' f' (by simp [hy]) hk')) hi (by simp only [S.new]; omega) R'
      simp only [S.new] at q2 hmono
      exact ⟨q1, by omega, fun b ob' hb p => q3 b ob' hb (step b ob' (by omega) p)⟩
end

section
variable {P : Program} {c : Ctx} {pr : Prt} {w0 : World} {call : CallF} {n : Nat} {ops : Array Oper} {ri : RI} {recs : List Rec} {tm0 tmF : T V} {s0 sF curF : S} {σ0 : Sg}

structure Inv [Val] (c : Ctx) (pr : Prt) (w0 : World) (call : CallF) (n : Nat) (ops : Array Oper) (recs : List Rec) (tm0 : T V) (s0 : S) (tmF : T V) (sF curF : S) (σ0 : Sg)
    (D : Nat → Bool) (A B : List Rec) (tmB : T V) (sB : S) (σh : Sg) (a : Act) (w : World) : Prop where
  split : recs = A ++ B
  chA : Chain c call n ops A tm0 s0 s0 tmB sB sB
  chB : Chain c call n ops B tmB sB sB tmF sF curF
  doneA : ∀ x ∈ A, x.isEff ∨ x.isAlloc → D x.i = true
  openB : ∀ x ∈ B, x.isEff → D x.i = false
  lastA : A = [] ∨ ∃ A' x, A = A' ++ [x] ∧ x.isEff
  R : Rel c.ng pr w0 (cut σh sB.next) sB w
  far : ∀ b v, sB.next ≤ b → σh b = some v → ∃ x ∈ B, x.isAlloc ∧ D x.i = true ∧ b = x.s.next
  pend : ∀ x ob f, x ∈ B → x.kd = .alloc ob f → D x.i = true → Pend pr w0 σh sB w x.s.next ob
  inj : ∀ b b' cb co ce co' ce', sB.next ≤ b → sB.next ≤ b' → b ≠ b' → σh b = some (cb, co, ce) → σh b' = some (cb, co', ce') → False
  fr : ∀ t, VR (cut σh (max (valD D t recs ((tm0.get t).getD .undef, 0)).2 sB.next)) (valD D t recs ((tm0.get t).getD .undef, 0)).1 (a.tmps.getD t undef)
  size : a.tmps.size = n
  defers : a.defers = []
  e0 : Ext σ0 (cut σh sB.next)

theorem Inv.put [Val] (N : Canon c call n ops ri recs tm0 s0 tmF sF curF) {D : Nat → Bool} {A0 B0 : List Rec} {x : Rec} {σh σh' : Sg} {a : Act} {k k' : Nat} {cv : Value} (hx : recs = A0 ++ x :: B0) (hc : Closed ops.toList (fun i => D i = true)) (hD : D x.i = false)
    (hfr : ∀ t, VR (cut σh (max (valD D t recs ((tm0.get t).getD .undef, 0)).2 k)) (valD D t recs ((tm0.get t).getD .undef, 0)).1 (a.tmps.getD t undef)) (hsz : a.tmps.size = n)
    (he : Ext σh σh') (hk : k ≤ k') (hv : VR (cut σh' (max x.sN.next k')) x.val cv) :
    (∀ t, VR (cut σh' (max (valD (fun i => D i || i == x.i) t recs ((tm0.get t).getD .undef, 0)).2 k')) (valD (fun i => D i || i == x.i) t recs ((tm0.get t).getD .undef, 0)).1 ((a.put x.o.dst cv).tmps.getD t undef)) ∧ (a.put x.o.dst cv).tmps.size = n := by
  have hold : ∀ t, VR (cut σh' (max (valD D t recs ((tm0.get t).getD .undef, 0)).2 k')) (valD D t recs ((tm0.get t).getD .undef, 0)).1 (a.tmps.getD t undef) :=
    fun t => VR.mono ((cut_le (by omega)).trans (cut_mono he)) _ _ (hfr t)
  obtain ⟨curN, hl⟩ := chain_link N.ch x (by rw [hx]; simp)
  have hp := hl.2.1
  cases hd : x.o.dst with
  | none =>
    refine ⟨fun t => ?_, hsz⟩
    rw [N.written hx hc hD, hd, if_neg (by simp)]
    exact hold t
  | some d =>
    rw [hd] at hp
    simp only [putT] at hp
    cases hlt : Nat.blt d n with
    | false => simp [hlt] at hp
    | true =>
      rw [Nat.blt_eq] at hlt
      refine ⟨fun t => ?_, by simp [Act.put, hsz]⟩
      rw [N.written hx hc hD, hd]
      simp only [Act.put, Array.getD_eq_getD_getElem?, Array.getElem?_setIfInBounds]
      by_cases e : t = d
      · subst e
        rw [if_pos rfl, if_pos rfl, if_pos (by rw [hsz]; exact hlt)]
        exact hv
      · rw [if_neg (by simp; exact fun h => e h.symm), if_neg (Ne.symm e)]
        simpa [Array.getD_eq_getD_getElem?] using hold t

theorem Inv.look [Val] (N : Canon c call n ops ri recs tm0 s0 tmF sF curF) {D : Nat → Bool} {A B : List Rec} {tmB : T V} {sB : S} {σh : Sg} {a : Act} {w : World} (I : Inv c pr w0 call n ops recs tm0 s0 tmF sF curF σ0 D A B tmB sB σh a w)
    {A0 B0 : List Rec} {x : Rec} (hx : recs = A0 ++ x :: B0) (hc : Closed ops.toList (fun i => D i = true)) (hD : D x.i = false) (hp : ∀ e ∈ edgesOf x.o.after.toList, D e = true) :
    (∀ t ∈ looks ops.toList x.o, VR (cut σh (max x.s.next sB.next)) ((x.tm.get t).getD .undef) (a.tmps.getD t undef)) ∧
    ∀ y v, lookρ c ops.toList x.o x.tm y = some v → VR (cut σh (max x.s.next sB.next)) v (a.eval y) := by
  have h1 : ∀ t ∈ looks ops.toList x.o, VR (cut σh (max x.s.next sB.next)) ((x.tm.get t).getD .undef) (a.tmps.getD t undef) := by
    intro t ht
    have hf := I.fr t
    rw [N.operand hx hc hD hp ht 0] at hf
    have hch := N.ch
    rw [hx] at hch
    obtain ⟨tm1, s1, cur1, c1, c2⟩ := chain_append hch
    obtain ⟨e1, e2, _⟩ := c2
    have hv := chain_val (t := t) (b := 0) c1
    rw [← hv, ← e1] at hf
    refine VR.mono (cut_le ?_) _ _ hf
    have := valD_bound (D := fun _ => true) (t := t) A0 ((tm0.get t).getD .undef, 0) (Nat.zero_le x.s.next) fun y hy => by rw [e2]; exact ((chain_next c1).2 y hy).2
    omega
  refine ⟨h1, fun y v hv => ?_⟩
  cases y <;> simp only [lookρ, ev] at hv
  case tmp t =>
    cases hh : has t (looks ops.toList x.o) with
    | false => simp [hh] at hv
    | true =>
      simp only [hh, cond_true, Option.some.injEq] at hv
      subst hv
      exact h1 t (has_ok.1 hh)
  case const u => exact toV_ok hv
  case global g =>
    cases hg : Nat.blt g c.ng with
    | false => simp [hg] at hv
    | true =>
      simp only [hg, cond_true, Option.some.injEq] at hv; subst hv
      rw [Nat.blt_eq] at hg
      obtain ⟨ce, hσ⟩ := I.R.glob.2 g hg
      simp only [VR, Act.eval]
      exact ⟨g, 0, ce, cut_le (Nat.le_max_right _ _) _ _ hσ, rfl⟩
  case func f => cases hv; simp only [VR, Act.eval]; exact ⟨#[], rfl, by simp [VRs]⟩

theorem alloc_num (N : Canon c call n ops ri recs tm0 s0 tmF sF curF) {x y : Rec} (hx : x ∈ recs) (hy : y ∈ recs) (ax : x.isAlloc) (ay : y.isAlloc) (h : x.s.next = y.s.next) : x = y := by
  have key : ∀ {x y : Rec} {A1 A2 A3 : List Rec}, recs = A1 ++ x :: A2 ++ y :: A3 → x.isAlloc → x.s.next = y.s.next → False := by
    intro x y A1 A2 A3 e ax h
    have hch := N.ch
    rw [e, List.append_assoc] at hch
    obtain ⟨_, _, _, _, c2⟩ := chain_append hch
    rw [List.cons_append] at c2
    obtain ⟨_, _, _, curN, l, c3⟩ := c2
    have := ((chain_next c3).2 y (by simp)).1
    obtain ⟨ob, f, hk⟩ := ax
    obtain ⟨_, _, _, l4⟩ := l
    simp only [hk] at l4
    rw [l4.2.2.2.1] at this
    simp only [S.new] at this
    omega
  obtain ⟨A, B, e⟩ := List.append_of_mem hx
  rw [e] at hy
  rcases List.mem_append.1 hy with hy | hy
  · obtain ⟨A1, A2, e2⟩ := List.append_of_mem hy
    exact (key (A1 := A1) (A2 := A2) (A3 := B) (by rw [e, e2]) ay h.symm).elim
  · cases hy with
    | head => rfl
    | tail _ hy =>
      obtain ⟨B1, B2, e2⟩ := List.append_of_mem hy
      exact (key (A1 := A) (A2 := B1) (A3 := B2) (by rw [e, e2]; simp) ax h).elim
end
end Go.Ai
