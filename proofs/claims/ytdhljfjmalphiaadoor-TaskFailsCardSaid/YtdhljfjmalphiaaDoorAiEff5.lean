/- Every operation that writes, or calls: the whole. -/
import Derived.Test.YtdhljfjmalphiaaDoorAiEff4
namespace Go.Ai
section
variable {P : Program} {c : Ctx} {pr : Prt} {w0 : World} {σ : Sg} {s : S} {w : World}

theorem eff_ok [Val] (T : TOk P c) (F : FtOk P c) (X : ExtOk P c) {call : CallF} (C : CallOk P c.ng call) (R : Rel c.ng pr w0 σ s w) {ρ : Operand → Option V} {a : Act} (hρ : ∀ x v, ρ x = some v → VR σ v (a.eval x))
    {o : Oper} {v : V} {s' : S} (h : effV c call o.op ρ s = some (v, s')) : Does P c.ng pr w0 σ o a w v s' := by
  obtain ⟨dst, op, ty, pos, after, guard⟩ := o
  cases op <;> simp only [effV] at h <;> try (cases h; done)
  case insert t m k x =>
    split at h
    case h_2 => cases h
    rename_i m' k' x' hm hk hx
    split at h
    case h_2 => cases h
    rename_i s1 hs
    cases h
    obtain ⟨w', hr, R'⟩ := mapSet_ok T R hs (hρ _ _ hm) (hρ _ _ hk) (hρ _ _ hx)
    exact does_skip (run_skip hr) R' (Ext.refl σ)
  case store t ad x =>
    split at h
    case h_2 => cases h
    rename_i b o v' i hb hv hi
    cases hl : Nat.beq v'.cells.length i.size with
    | false => simp [hl] at h
    | true =>
      simp only [hl, cond_true] at h
      have hl := Nat.eq_of_beq_eq_true hl
      split at h
      case h_2 => cases h
      rename_i s1 hput
      cases h
      have hb' := hρ _ _ hb
      simp only [VR] at hb'
      obtain ⟨cb, co, ce, hσ, hb'⟩ := hb'
      have hvr := (hρ _ _ hv).cells
      have hlen := hvr.length
      simp only [Array.length_toList] at hlen
      obtain ⟨w', hw', R'⟩ := R.put hput hvr hσ
      refine does_skip (run_skip ?_) R' (Ext.refl σ)
      simp only [Instr.storeAt, hb', Instr.sureAddr, Sem.run_bind, Sem.run_pure, Result.andThen_ok, storeVar, run_size T hi]
      rw [if_neg (by rw [← hlen, hl]; simp)]
      exact hw' P
  case convert src dst x =>
    split at h
    case h_2 => cases h
    rename_i b o len cap esz ex i j hx hi hj
    obtain ⟨infoj, dj, zj, j1, j2, j3, j4, j6, j7, j8, j9⟩ := T.at hj
    split at h
    case h_2 => cases h
    rename_i e hcond hk
    simp only [Bool.and_eq_true, Nat.beq_eq, Nat.blt_eq] at hcond
    obtain ⟨rfl, hcap⟩ := hcond
    rw [hk] at j6; have := kOf_slice j6; subst this
    cases he : c.tt.get e with
    | none => simp [he] at h
    | some ie =>
      simp only [he] at h
      obtain ⟨info', d', z', g1, g2, g3, g4, g6, g7, g8, g9⟩ := T.at he
      split at h
      case h_2 => cases h
      rename_i hke
      rw [hke] at g6; have := kOf_int g6; subst this
      split at h
      case h_2 => cases h
      rename_i sb cs hb
      cases h
      have hx' := hρ _ _ hx
      have hx0 := hx'
      simp only [VR] at hx'
      obtain ⟨ad, cap', hv, hlc, hcc, hex, hadr⟩ := hx'
      rcases hadr with ⟨_, z2⟩ | ⟨cb, co, ce, q1, rfl, q3⟩
      · omega
      obtain ⟨_, _, _, cc, el, fr, b1, b2, _⟩ := R.obj b _ hb
      rw [q1] at b1; cases b1
      refine does_value (cv := a.eval x) (run_value ?_) hx0 (R.markB hb q1 b2) (Ext.refl σ)
      simp only [convert, Sem.run_bind, run_underlying j2, Result.andThen_ok, hv, beq_self_eq_true, run_underlying g2, markStringish, run_shape, World.shape?, b2, run_freeze, Sem.run_pure]
  case mapUpdate t m k x =>
    split at h
    case h_2 => cases h
    rename_i m' k' x' hm hk hx
    split at h
    case h_2 => cases h
    rename_i s1 hs
    cases h
    obtain ⟨w', hr, R'⟩ := mapSet_ok T R hs (hρ _ _ hm) (hρ _ _ hk) (hρ _ _ hx)
    exact does_skip (run_skip hr) R' (Ext.refl σ)
  case call cl =>
    obtain ⟨callee, args, argTypes⟩ := cl
    cases callee <;> simp only [] at h <;> try (cases h; done)
    case value f =>
      split at h
      case h_2 => cases h
      rename_i g caps vs hf hargs
      have hf' := hρ _ _ hf
      simp only [VR] at hf'
      obtain ⟨carr, hfv, hcr⟩ := hf'
      have har := evs_ok hρ hargs
      have hall : VRs σ (vs ++ caps) ((args.map a.eval) ++ carr).toList := by
        rw [Array.toList_append, Array.toList_map]
        exact VRs.append har hcr
      have hres : ∀ (t : Nat), (resolve a.eval ⟨.value f, args, argTypes⟩ t).run P w = .ok { target := .fn (.func g) carr, args := args.map a.eval } w := by
        intro t
        simp [resolve, Deferred.ofValue, hfv]
      split at h
      · rename_i v' hx
        cases h
        obtain ⟨cv, w', σ', hr, hvr, R', hE⟩ := X g _ _ _ _ hx pr w0 σ w _ R hall
        refine does_value (cv := cv) ?_ hvr R' hE
        simp only [execOp, Sem.run_bind, hres, Result.andThen_ok, invoke, hr]
      · split at h
        case h_2 => cases h
        rename_i fn hfn
        split at h
        case h_2 => cases h
        rename_i code hcode
        obtain ⟨F1, F2⟩ := F g fn hfn
        have hrun : (execOp a.eval ⟨dst, .call ⟨.value f, args, argTypes⟩, ty, pos, after, guard⟩).run P w = .ok (.enter g ((args.map a.eval) ++ carr)) w := by
          simp only [execOp, Sem.run_bind, hres, Result.andThen_ok, invoke, callFunc, run_program, F1, F2, Bool.false_eq_true, if_false, hcode, Option.isNone_some, Sem.run_pure]
        intro K Q hK
        unfold Oper.wp
        rw [hrun]
        refine (C g _ s v s' h pr w0 σ w _ R hall).mono ?_
        rintro e w' ⟨cv, σ', rfl, hv, R', he⟩
        exact hK cv w' σ' hv R' he
    case builtin b =>
      cases b <;> simp only [] at h <;> try (cases h; done)
      case append =>
        split at h
        case h_2 => cases h
        rename_i x y t ty' hargs hts
        have har := evs_ok hρ hargs
        simp only [VRs] at har
        obtain ⟨u, us, e1, hu, u', us', rfl, hu', rfl⟩ := har
        have hts' : argTypes = #[t, ty'] := by apply Array.ext'; simpa using hts
        have hargs' : args.map a.eval = #[u, u'] := by apply Array.ext'; simpa using e1
        split at h
        case h_2 => cases h
        rename_i iy hiy
        split at h
        · cases h
        rename_i hni
        obtain ⟨cv, w', σ', hr, hv, R', he⟩ := appendV_ok (rt := ty) T R h hu hu' hiy (fun k hk => hni k hk)
        refine does_value (cv := cv) ?_ hv R' he
        simp [execOp, resolve, invoke, builtin, hts', hargs', hr]
      case clear =>
        split at h
        case h_2 => cases h
        rename_i x t ts hargs hts
        have har := evs_ok hρ hargs
        simp only [VRs] at har
        obtain ⟨u, us, e1, hu, rfl⟩ := har
        have hts' : argTypes[0]? = some t := by rw [← Array.getElem?_toList, hts]; rfl
        have hargs' : args.map a.eval = #[u] := by apply Array.ext'; simpa using e1
        obtain ⟨cv, w', hr, hv, R'⟩ := clearV_ok (rt := ty) T R h hts' hu
        refine does_value (cv := cv) ?_ hv R' (Ext.refl σ)
        simp [execOp, resolve, invoke, builtin, hargs', hr]
      case copy =>
        split at h
        case h_2 => cases h
        rename_i x y t ts hargs hts
        have har := evs_ok hρ hargs
        simp only [VRs] at har
        obtain ⟨u, us, e1, hu, u', us', rfl, hu', rfl⟩ := har
        have hts' : argTypes[0]? = some t := by rw [← Array.getElem?_toList, hts]; rfl
        have hargs' : args.map a.eval = #[u, u'] := by apply Array.ext'; simpa using e1
        obtain ⟨cv, w', hr, hv, R'⟩ := copyV_ok (rt := ty) T R h hts' hu hu'
        refine does_value (cv := cv) ?_ hv R' (Ext.refl σ)
        simp [execOp, resolve, invoke, builtin, hargs', hr]
      case unsafeString =>
        split at h
        case h_2 => cases h
        rename_i p n pt it hargs hts
        have har := evs_ok hρ hargs
        simp only [VRs] at har
        obtain ⟨u, us, e1, hu, u', us', rfl, hu', rfl⟩ := har
        have hts' : argTypes = #[pt, it] := by apply Array.ext'; simpa using hts
        have hargs' : args.map a.eval = #[u, u'] := by apply Array.ext'; simpa using e1
        obtain ⟨cv, w', hr, hv, R'⟩ := unsafeStr_ok (ty := ty) (it := it) T R h hu hu'
        refine does_value (cv := cv) ?_ hv R' (Ext.refl σ)
        simp [execOp, resolve, invoke, builtin, hts', hargs', hr]
      case delete =>
        split at h
        case h_2 => cases h
        rename_i m k t ts hargs hts
        have har := evs_ok hρ hargs
        simp only [VRs] at har
        obtain ⟨u, us, e1, hu, u', us', rfl, hu', rfl⟩ := har
        have hts' : argTypes[0]? = some t := by rw [← Array.getElem?_toList, hts]; rfl
        have hargs' : args.map a.eval = #[u, u'] := by apply Array.ext'; simpa using e1
        split at h
        case h_2 => cases h
        rename_i s1 hd
        cases h
        obtain ⟨w', hr, R'⟩ := mapDel_ok (ty := ty) T R hd hts' hu hu'
        refine does_value (cv := .tuple #[]) ?_ vr_undef R' (Ext.refl σ)
        simp [execOp, resolve, invoke, builtin, hargs', hr]

/-- A frame's temporaries. -/
structure FR [Val] (σ : Sg) (n : Nat) (tm : T V) (a : Act) : Prop where
  size : a.tmps.size = n
  get : ∀ t, VR σ ((tm.get t).getD .undef) (a.tmps.getD t undef)
  defers : a.defers = []
theorem FR.mono [Val] {σ' : Sg} {n : Nat} {tm : T V} {a : Act} (h : FR σ n tm a) (he : Ext σ σ') : FR σ' n tm a := ⟨h.size, fun t => VR.mono he _ _ (h.get t), h.defers⟩
theorem FR.put [Val] {n : Nat} {tm tm' : T V} {a : Act} {dst : Option Tmp} {v : V} {cv : Value} (h : FR σ n tm a) (hp : putT n tm dst v = some tm') (hv : VR σ v cv) : FR σ n tm' (a.put dst cv) := by
  cases dst with
  | none => simp only [putT, Option.some.injEq] at hp; subst hp; exact h
  | some d =>
    simp only [putT] at hp
    cases hd : Nat.blt d n with
    | false => simp [hd] at hp
    | true =>
      simp only [hd, cond_true, Option.some.injEq] at hp; subst hp
      rw [Nat.blt_eq] at hd
      refine ⟨by simp [Act.put, h.size], fun t => ?_, h.defers⟩
      rw [T.get_set]
      simp only [Act.put, Array.getD_eq_getD_getElem?, Array.getElem?_setIfInBounds]
      by_cases e : t = d
      · subst e
        rw [if_pos rfl, if_pos rfl, if_pos (by rw [h.size]; exact hd)]
        exact hv
      · rw [if_neg e, if_neg (Ne.symm e)]
        have := h.get t
        simpa [Array.getD_eq_getD_getElem?] using this
theorem ev_ok [Val] {n : Nat} {tm : T V} {a : Act} (R : Rel c.ng pr w0 σ s w) (h : FR σ n tm a) : ∀ x v, ev c.ng tm x = some v → VR σ v (a.eval x) := by
  intro x v hx
  cases x <;> simp only [ev] at hx
  case tmp t => cases hx; exact h.get t
  case const u => exact toV_ok hx
  case global g =>
    cases hg : Nat.blt g c.ng with
    | false => simp [hg] at hx
    | true =>
      simp only [hg, cond_true, Option.some.injEq] at hx; subst hx
      rw [Nat.blt_eq] at hg
      obtain ⟨ce, hσ⟩ := R.glob.2 g hg
      simp only [VR, Act.eval]
      exact ⟨g, 0, ce, hσ, rfl⟩
  case func f => cases hx; simp only [VR, Act.eval]; exact ⟨#[], rfl, by simp [VRs]⟩

theorem wanted_ok [Val] {n : Nat} {tm : T V} {a : Act} (h : FR σ n tm a) (ops : Array Oper) (o : Oper) : Region.wanted o (yielded ops a.tmps) = wantedV ops tm o := by
  unfold Region.wanted wantedV yielded
  cases hg : o.guard with
  | none => rfl
  | some p =>
    obtain ⟨j, want⟩ := p
    simp only []
    rw [nth_eq, Array.getElem?_toList]
    cases hj : (ops[j]?).bind (·.dst) with
    | none => rfl
    | some t =>
      simp only [Option.bind_some]
      have := h.get t
      cases ht : tm.get t with
      | none =>
        rw [ht] at this
        simp only [Option.getD_none, VR] at this
        obtain ⟨arr, h1, h2⟩ := this
        rw [Array.getD_eq_getD_getElem?] at h1
        cases hx : a.tmps[t]? with
        | none => simp
        | some x => rw [hx] at h1; simp only [Option.getD_some] at h1; subst h1; simp
      | some v =>
        rw [ht] at this
        simp only [Option.getD_some] at this
        rw [Array.getD_eq_getD_getElem?] at this
        cases hx : a.tmps[t]? with
        | none =>
          rw [hx] at this
          simp only [Option.getD_none] at this
          cases v <;> simp only [VR, undef] at this <;> first | rfl | skip
          · cases this
        | some x =>
          rw [hx] at this
          simp only [Option.getD_some] at this
          cases v <;> simp only [VR] at this
          case bool b => subst this; cases b <;> cases want <;> rfl
          case str => obtain ⟨_, rfl, _⟩ := this; rfl
          case ptr => obtain ⟨_, _, _, _, rfl⟩ := this; rfl
          case sl => obtain ⟨_, _, rfl, _⟩ := this; rfl
          case mp => obtain ⟨_, _, _, _, rfl⟩ := this; rfl
          case fn => obtain ⟨_, rfl, _⟩ := this; rfl
          case agg => obtain ⟨_, rfl, _⟩ := this; rfl
          case tup => obtain ⟨_, rfl, _⟩ := this; rfl
          case ifc => obtain ⟨_, rfl, _⟩ := this; rfl
          all_goals (subst this; rfl)

/-- One operation. -/
theorem step_ok [Val] (T : TOk P c) (F : FtOk P c) (X : ExtOk P c) {call : CallF} (C : CallOk P c.ng call) (R : Rel c.ng pr w0 σ s w) {n : Nat} {tm : Go.Ai.T V} {a : Act} (hf : FR σ n tm a) {o : Oper} {v : V} {s' : S}
    (h : stepV c call o.op (ev c.ng tm) s = some (v, s')) : Does P c.ng pr w0 σ o a w v s' := by
  have hρ := ev_ok R hf
  unfold stepV at h
  split at h
  · split at h
    case h_2 => cases h
    rename_i v' hp
    cases h
    obtain ⟨u, hu, hv⟩ := pure_ok T R hρ hp
    exact does_value hu hv R (Ext.refl σ)
  · split at h
    case h_2 => cases h
    rename_i ob f ha
    cases h
    obtain ⟨cv, w', obj, ce, h1, h2, h3, h4⟩ := (alloc_ok (w := w) T hρ ha).ex
    have hE : Ext σ (fun j => if j = s.next then some (w.heap.size, 0, ce) else σ j) := Ext.set (R.fresh _ (Nat.le_refl _))
    obtain ⟨h5, h6⟩ := h4 _ s.next hE (by simp)
    exact does_value h1 h5 (R.newBlock (allocV_rw ha) h2 h3 (h6 w' (by rw [h2]; simp))) hE
  · exact eff_ok T F X C R hρ h

/-- The operations of a region that keeps the text's order. -/
theorem seq_ok [Val] (T : TOk P c) (F : FtOk P c) (X : ExtOk P c) {call : CallF} (C : CallOk P c.ng call) {n : Nat} {ops : Array Oper} {Q : Exit → Act → World → Prop} : ∀ (l : List Oper) (is : List Nat) (tm : Go.Ai.T V) (s : S) (tm' : Go.Ai.T V) (s' : S) (σ : Sg) (a : Act) (w : World),
    is.map (fun i => ops[i]?) = l.map some → seqV c call n ops l tm s = some (tm', s') → Rel c.ng pr w0 σ s w → FR σ n tm a →
    (∀ a' w' σ', FR σ' n tm' a' → Rel c.ng pr w0 σ' s' w' → Ext σ σ' → Q .normal a' w') → wpOps P ops Q is a w
  | [], is, tm, s, tm', s', σ, a, w, hi, h, R, hf, hQ => by
    have : is = [] := by simpa using hi
    subst this
    simp only [seqV, Option.some.injEq, Prod.mk.injEq] at h
    obtain ⟨rfl, rfl⟩ := h
    exact hQ a w σ hf R (Ext.refl σ)
  | o :: l, is, tm, s, tm', s', σ, a, w, hi, h, R, hf, hQ => by
    cases is with
    | nil => simp at hi
    | cons i is =>
      simp only [List.map_cons, List.cons.injEq] at hi
      obtain ⟨hi0, hi⟩ := hi
      simp only [wpOps, hi0]
      rw [wanted_ok hf]
      simp only [seqV] at h
      split at h
      · rename_i hw
        rw [if_pos hw]
        split at h
        case h_2 => cases h
        rename_i v s1 hs
        split at h
        case h_2 => cases h
        rename_i tm1 hp
        refine .inl (step_ok T F X C R hf hs _ _ fun cv w' σ' hv R' he => ?_)
        exact seq_ok T F X C l is tm1 s1 tm' s' σ' _ w' hi h R' ((hf.mono he).put hp hv) fun a' w'' σ'' f' r' e' => hQ a' w'' σ'' f' r' (he.trans e')
      · rename_i hw
        rw [if_neg (by rw [hw]; simp)]
        split at h
        case h_2 => cases h
        rename_i tm1 hp
        exact seq_ok T F X C l is tm1 s tm' s' σ _ w hi h R (hf.put hp vr_undef) hQ
end
end Go.Ai
