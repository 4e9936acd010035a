/- The code of a function, and calls. -/
import Derived.Test.YtdhljfjmalphiaaDoorAiDrawG
import Derived.LoopN
import Derived.Scope
namespace Go.Ai

def Ex.to : Ex → Exit
  | .normal => .normal
  | .exit id => .exit id
  | .ret => .ret

section
variable {P : Program} {c : Ctx} {pr : Prt} {w0 : World} {call : CallF} {n lf fid : Nat}

theorem iter_ok [Val] {b : Code} {f : T V → S → Option (Ex × T V × S)} {Q : Exit → Act → World → Prop}
    (hb : ∀ (tm : T V) (s : S) (e : Ex) (tm' : T V) (s' : S), f tm s = some (e, tm', s') → ∀ (σ : Sg) (a : Act) (w : World), Rel c.ng pr w0 σ s w → FR σ n tm a → ∀ (Q : Exit → Act → World → Prop),
      (∀ a' w' σ', FR σ' n tm' a' → Rel c.ng pr w0 σ' s' w' → Ext σ σ' → Q e.to a' w') → b.wp P Q a w) :
    ∀ (k : Nat) (tm : T V) (s : S) (e : Ex) (tm' : T V) (s' : S), iterV f k tm s = some (e, tm', s') → ∀ (σ : Sg) (a : Act) (w : World), Rel c.ng pr w0 σ s w → FR σ n tm a →
      (∀ a' w' σ', FR σ' n tm' a' → Rel c.ng pr w0 σ' s' w' → Ext σ σ' → Q e.to a' w') → Code.rounds P b Q k a w := by
  intro k
  induction k with
  | zero => intro tm s e tm' s' h; simp [iterV] at h
  | succ k ih =>
    intro tm s e tm' s' h σ a w R hf hQ
    rw [rounds_succ]
    simp only [iterV] at h
    split at h
    · rename_i tm1 s1 h1
      refine hb _ _ _ _ _ h1 σ a w R hf _ fun a' w' σ' f' R' e' => ?_
      exact ih _ _ _ _ _ h σ' a' w' R' f' fun a'' w'' σ'' f'' R'' e'' => hQ a'' w'' σ'' f'' R'' (e'.trans e'')
    · rename_i hne
      refine hb _ _ _ _ _ h σ a w R hf _ fun a' w' σ' f' R' e' => ?_
      have := hQ a' w' σ' f' R' e'
      cases e with
      | normal => exact (hne _ _ h).elim
      | exit id => exact this
      | ret => exact this

theorem code_ok [Val] (hm : P.follows .mixedOrders = true) (T : TOk P c) (F : FtOk P c) (X : ExtOk P c) (Cl : CallOk P c.ng call) : ∀ (code : Code) (tm : Go.Ai.T V) (s : S) (e : Ex) (tm' : Go.Ai.T V) (s' : S),
    codeOk c fid code = true → codeV c call lf fid n code tm s = some (e, tm', s') → ∀ (σ : Sg) (a : Act) (w : World), Rel c.ng pr w0 σ s w → FR σ n tm a → ∀ (Q : Exit → Act → World → Prop),
      (∀ a' w' σ', FR σ' n tm' a' → Rel c.ng pr w0 σ' s' w' → Ext σ σ' → Q e.to a' w') → code.wp P Q a w := by
  intro code
  induction code with
  | skip =>
    intro tm s e tm' s' ho h σ a w R hf Q hQ
    simp only [codeV] at h
    cases h
    exact wp_skip (hQ a w σ hf R (Ext.refl σ))
  | label l =>
    intro tm s e tm' s' ho h σ a w R hf Q hQ
    simp only [codeV] at h
    cases h
    exact wp_label (hQ a w σ hf R (Ext.refl σ))
  | region id ops draw =>
    intro tm s e tm' s' ho h σ a w R hf Q hQ
    cases draw with
    | false =>
      simp only [codeV] at h
      split at h
      case h_2 => cases h
      rename_i tm1 s1 h1
      cases h
      refine wp_region (seq_ok T F X Cl ops.toList (List.range ops.size) tm s tm' s' σ a w ?_ h1 R hf hQ)
      apply List.ext_getElem?
      intro i
      simp only [List.getElem?_map]
      rcases Nat.lt_or_ge i ops.size with hi | hi
      · rw [List.getElem?_range hi]
        simp [hi]
      · rw [List.getElem?_eq_none (by simpa using hi), List.getElem?_eq_none (by simpa using hi)]; rfl
    | true =>
      simp only [codeV] at h
      split at h
      case h_2 => cases h
      rename_i ri hri
      split at h
      case h_2 => cases h
      rename_i tm1 s1 h1
      cases h
      simp only [codeOk, hri] at ho
      exact draw_ok hm T F X Cl ho h1 R hf hQ
  | seq x y ihx ihy =>
    intro tm s e tm' s' ho h σ a w R hf Q hQ
    simp only [codeOk, Bool.and_eq_true] at ho
    simp only [codeV] at h
    refine wp_seq ?_
    split at h
    · rename_i tm1 s1 h1
      refine ihx _ _ _ _ _ ho.1 h1 σ a w R hf _ fun a' w' σ' f' R' e' => ?_
      exact ihy _ _ _ _ _ ho.2 h σ' a' w' R' f' _ fun a'' w'' σ'' f'' R'' e'' => hQ a'' w'' σ'' f'' R'' (e'.trans e'')
    · rename_i hne
      refine ihx _ _ _ _ _ ho.1 h σ a w R hf _ fun a' w' σ' f' R' e' => ?_
      have := hQ a' w' σ' f' R' e'
      cases e with
      | normal => exact (hne _ _ h).elim
      | exit id => exact this
      | ret => exact this
  | cond x y z ihy ihz =>
    intro tm s e tm' s' ho h σ a w R hf Q hQ
    simp only [codeOk, Bool.and_eq_true] at ho
    simp only [codeV] at h
    split at h
    · rename_i hx
      have := ev_ok R hf _ _ hx
      simp only [VR] at this
      exact wp_cond_true this (ihy _ _ _ _ _ ho.1 h σ a w R hf Q hQ)
    · rename_i hx
      have := ev_ok R hf _ _ hx
      simp only [VR] at this
      exact wp_cond_false this (ihz _ _ _ _ _ ho.2 h σ a w R hf Q hQ)
    · cases h
  | block id b ih =>
    intro tm s e tm' s' ho h σ a w R hf Q hQ
    simp only [codeOk] at ho
    simp only [codeV] at h
    refine wp_block ?_
    split at h
    · rename_i j tm1 s1 h1
      refine ih _ _ _ _ _ ho h1 σ a w R hf _ fun a' w' σ' f' R' e' => ?_
      show if j = id then _ else _
      cases hj : Nat.beq j id with
      | true =>
        have hj' := Nat.eq_of_beq_eq_true hj
        simp only [hj, cond_true, Option.some.injEq, Prod.mk.injEq] at h
        obtain ⟨rfl, rfl, rfl⟩ := h
        rw [if_pos hj']
        exact hQ a' w' σ' f' R' e'
      | false =>
        have hj' := Nat.ne_of_beq_eq_false hj
        simp only [hj, cond_false, Option.some.injEq, Prod.mk.injEq] at h
        obtain ⟨rfl, rfl, rfl⟩ := h
        rw [if_neg hj']
        exact hQ a' w' σ' f' R' e'
    · rename_i hne
      refine ih _ _ _ _ _ ho h σ a w R hf _ fun a' w' σ' f' R' e' => ?_
      have := hQ a' w' σ' f' R' e'
      cases e with
      | normal => exact this
      | exit id => exact (hne _ _ _ h).elim
      | ret => exact this
  | loop b ih =>
    intro tm s e tm' s' ho h σ a w R hf Q hQ
    simp only [codeOk] at ho
    simp only [codeV] at h
    exact wp_loop_rounds lf (iter_ok (fun tm s e tm' s' h => ih tm s e tm' s' ho h) lf tm s e tm' s' h σ a w R hf hQ)
  | scope b ih =>
    intro tm s e tm' s' ho h σ a w R hf Q hQ
    simp only [codeOk] at ho
    simp only [codeV] at h
    refine wp_scope_straight (ih _ _ _ _ _ ho h σ a w R hf _ fun a' w' σ' f' R' e' => ?_)
    have := hQ a' w' σ' f' R' e'
    cases e <;> exact this
  | exit id =>
    intro tm s e tm' s' ho h σ a w R hf Q hQ
    simp only [codeV] at h
    cases h
    exact wp_exit (hQ a w σ hf R (Ext.refl σ))
  | ret =>
    intro tm s e tm' s' ho h σ a w R hf Q hQ
    simp only [codeV] at h
    cases h
    exact wp_ret (hQ a w σ hf R (Ext.refl σ))
  | rangeFunc f params x y => intro tm s e tm' s' ho h; simp [codeV] at h
  | goto l => intro tm s e tm' s' ho h; simp [codeV] at h
  | refuse why => intro tm s e tm' s' ho h; simp [codeV] at h

-- results
def oneRes (tmps : Array Value) : ResultVar → Sem Value
  | .tmp t => pure (tmps.getD t undef)
  | .cell x t => do loadVar t (← asAddr (tmps.getD x undef))
theorem results_eq (fn : Func) (tmps : Array Value) : results fn tmps = (do
    let vs ← fn.results.mapM (oneRes tmps)
    pure (if h : vs.size = 1 then vs[0] else .tuple vs)) := rfl
theorem res_ok [Val] (T : TOk P c) {σ : Sg} {s : S} {w : World} (R : Rel c.ng pr w0 σ s w) {tm : Go.Ai.T V} {a : Act} (hf : FR σ n tm a) : ∀ (l : List ResultVar) (vs : List V), resV c tm s l = some vs →
    ∃ us : List Value, VRs σ vs us ∧ (l.mapM (oneRes a.tmps)).run P w = .ok us w
  | [], vs, h => by
    simp only [resV, Option.some.injEq] at h
    subst h
    exact ⟨[], VRs.nil, by simp⟩
  | r :: l, vs, h => by
    simp only [resV] at h
    split at h
    case h_2 => cases h
    rename_i v hv
    split at h
    case h_2 => cases h
    rename_i vs' hvs
    cases h
    obtain ⟨us, h1, h2⟩ := res_ok T R hf l vs' hvs
    have key : ∃ u, VR σ v u ∧ (oneRes a.tmps r).run P w = .ok u w := by
      cases r with
      | tmp t =>
        simp only [Option.some.injEq] at hv
        subst hv
        exact ⟨_, hf.get t, by simp [oneRes]⟩
      | cell x t =>
        simp only [] at hv
        split at hv
        case h_2 => cases hv
        rename_i b o i hx hi
        have hp := hf.get x
        rw [hx] at hp
        obtain ⟨u, q1, q2⟩ := load_ok T R hi hp hv
        refine ⟨u, q2, ?_⟩
        simp only [VR] at hp
        obtain ⟨cb, co, ce, hσ, hp⟩ := hp
        show (do loadVar t (← asAddr (a.tmps.getD x undef)) : Sem Value).run P w = .ok u w
        rw [hp] at q1 ⊢
        exact q1
    obtain ⟨u, k1, k2⟩ := key
    refine ⟨u :: us, VRs.cons k1 h1, ?_⟩
    rw [List.mapM_cons]
    simp only [Sem.run_bind]
    rw [k2]
    simp only [Result.andThen_ok, h2, Sem.run_pure]
end

/-- What is asked of the summaries: what is asked of calls. -/
def CodesOk (c : Ctx) : Prop := ∀ f fn code, c.ft.get f = some fn → fn.body = some code → codeOk c f code = true

theorem callStep_ok [Val] {P : Program} {c : Ctx} {call : CallF} {lf : Nat} (hm : P.follows .mixedOrders = true) (T : TOk P c) (F : FtOk P c) (X : ExtOk P c) (Sm : CallOk P c.ng c.sum) (Co : CodesOk c) (Cl : CallOk P c.ng call) :
    CallOk P c.ng (callStep c lf call) := by
  intro f args s v s' h pr w0 σ w cargs R hargs
  unfold callStep at h
  split at h
  · rename_i r hr
    cases h
    exact Sm f args s v s' hr pr w0 σ w cargs R hargs
  split at h
  · cases h
  rename_i fn hfn
  split at h
  · cases h
  rename_i code hcode
  cases hle : Nat.ble args.length fn.ntmps with
  | false => simp [hle] at h
  | true =>
    rw [hle] at h
    simp only [cond_true] at h
    have hlen := hargs.length
    simp only [Array.length_toList] at hlen
    have hle' : args.length ≤ fn.ntmps := Nat.le_of_ble_eq_true hle
    have hfr : FR σ fn.ntmps (Go.Ai.T.ofListFrom args 0 .leaf) { tmps := cargs ++ Array.replicate (fn.ntmps - cargs.size) undef, defers := [] } := by
      refine ⟨by simp; omega, fun t => ?_, rfl⟩
      rw [Go.Ai.T.get_ofListFrom, Go.Ai.T.get_leaf]
      simp only [Nat.zero_le, true_and, Nat.zero_add, Nat.sub_zero, Array.getD_eq_getD_getElem?]
      by_cases ht : t < args.length
      · rw [if_pos ht, Array.getElem?_append_left (by omega)]
        obtain ⟨x, hx, hv⟩ := hargs.get (List.getElem?_eq_getElem ht)
        rw [List.getElem?_eq_getElem ht]
        simp only [Array.getElem?_toList] at hx
        rw [hx]; exact hv
      · rw [if_neg ht, Array.getElem?_append_right (by omega), Array.getElem?_replicate]
        simp only [Option.getD_none]
        split <;> exact vr_undef
    have run : ∀ (e : Ex) (tm : Go.Ai.T V) (s1 : S), codeV c call lf f fn.ntmps code (Go.Ai.T.ofListFrom args 0 .leaf) s = some (e, tm, s1) → (e = .normal ∨ e = .ret) →
        (match resV c tm s1 fn.results.toList with
          | some vs => some (packV vs, s1)
          | none => none) = some (v, s') → Calls P f cargs w fun e w' => ∃ cv σ', e = .returned cv ∧ VR σ' v cv ∧ Rel c.ng pr w0 σ' s' w' ∧ Ext σ σ' := by
      intro e tm s1 hc he hr
      split at hr
      case h_2 => cases hr
      rename_i vs hvs
      cases hr
      refine calls_of_wp (F f fn hfn).1 hcode (code_ok (lf := lf) (fid := f) hm T F X Cl code _ _ _ _ _ (Co f fn code hfn hcode) hc σ _ w R hfr _ fun a' w' σ' f' R' e' => ?_)
      have hpost : a'.defers = [] ∧ ∃ u, (results fn a'.tmps).run P w' = .ok u w' ∧ ∃ cv σ'', Ending.returned u = .returned cv ∧ VR σ'' (packV vs) cv ∧ Rel c.ng pr w0 σ'' s' w' ∧ Ext σ σ'' := by
        refine ⟨f'.defers, ?_⟩
        obtain ⟨us, u1, u2⟩ := res_ok T R' f' fn.results.toList vs hvs
        refine ⟨if h : us.toArray.size = 1 then us.toArray[0] else .tuple us.toArray, ?_, _, σ', rfl, ?_, R', e'⟩
        · rw [results_eq, Array.mapM_eq_mapM_toList]
          simp only [Sem.run_bind, map_eq_pure_bind]
          rw [u2]
          simp only [Result.andThen_ok, Sem.run_pure]
        · cases vs with
          | nil =>
            simp only [VRs] at u1; subst u1
            simp only [packV, VR]
            exact ⟨#[], by simp, by simp [VRs]⟩
          | cons x xs =>
            simp only [VRs] at u1
            obtain ⟨y, ys, rfl, k1, k2⟩ := u1
            cases xs with
            | nil =>
              simp only [VRs] at k2; subst k2
              simpa [packV] using k1
            | cons x' xs =>
              have := k2
              simp only [VRs] at this
              obtain ⟨y', ys', rfl, _, _⟩ := this
              simp only [packV, VR]
              refine ⟨(y :: y' :: ys').toArray, by simp, ?_⟩
              exact VRs.cons k1 k2
      rcases he with rfl | rfl
      · exact hpost
      · exact hpost
    split at h
    · rename_i tm s1 hc; exact run _ _ _ hc (.inl rfl) h
    · rename_i tm s1 hc; exact run _ _ _ hc (.inr rfl) h
    · cases h

theorem callN_ok [Val] {P : Program} {c : Ctx} {lf : Nat} (hm : P.follows .mixedOrders = true) (T : TOk P c) (F : FtOk P c) (X : ExtOk P c) (Sm : CallOk P c.ng c.sum) (Co : CodesOk c) : ∀ d, CallOk P c.ng (callN c lf d)
  | 0 => fun f args s v s' h => by simp [callN] at h
  | d + 1 => callStep_ok hm T F X Sm Co (callN_ok hm T F X Sm Co d)
end Go.Ai
