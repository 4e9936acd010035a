/- Every operation that writes. -/
import Derived.Test.YtdhljfjmalphiaaDoorAiEff2
namespace Go.Ai

/-- What is asked of the functions that are called. -/
def CallOk [Val] (P : Program) (ng : Nat) (call : CallF) : Prop :=
  ∀ f args s v s', call f args s = some (v, s') → ∀ (pr : Prt) (w0 : World) (σ : Sg) (w : World) (cargs : Array Value), Rel ng pr w0 σ s w → VRs σ args cargs.toList →
    Calls P f cargs w fun e w' => ∃ cv σ', e = .returned cv ∧ VR σ' v cv ∧ Rel ng pr w0 σ' s' w' ∧ Ext σ σ'
def FtOk (P : Program) (c : Ctx) : Prop := ∀ f fn, c.ft.get f = some fn → P.funcs[f]? = some fn ∧ (fn.name == "runtime.NumGoroutine") = false
def ExtOk [Val] (P : Program) (c : Ctx) : Prop :=
  ∀ f args s v s', c.ext f args s = some (v, s') → ∀ (pr : Prt) (w0 : World) (σ : Sg) (w : World) (cargs : Array Value), Rel c.ng pr w0 σ s w → VRs σ args cargs.toList →
    ∃ cv w' σ', (callFunc f cargs).run P w = .ok (.value cv) w' ∧ VR σ' v cv ∧ Rel c.ng pr w0 σ' s' w' ∧ Ext σ σ'

section
variable {P : Program} {c : Ctx} {ng : Nat} {pr : Prt} {w0 : World} {σ : Sg} {s : S} {w : World}

/-- What an operation that writes comes to. -/
def Does [Val] (P : Program) (ng : Nat) (pr : Prt) (w0 : World) (σ : Sg) (o : Oper) (a : Act) (w : World) (v : V) (s' : S) : Prop :=
  ∀ (K : Act → World → Prop) (Q : Exit → Act → World → Prop), (∀ cv w' σ', VR σ' v cv → Rel ng pr w0 σ' s' w' → Ext σ σ' → K (a.put o.dst cv) w') → o.wp P a w K Q

theorem does_value [Val] {o : Oper} {a : Act} {v : V} {s' : S} {cv : Value} {w' : World} {σ' : Sg} (hr : (execOp a.eval o).run P w = .ok (.value cv) w') (hv : VR σ' v cv) (R : Rel ng pr w0 σ' s' w') (he : Ext σ σ') :
    Does P ng pr w0 σ o a w v s' := by
  intro K Q hK
  unfold Oper.wp
  rw [hr]
  exact hK cv w' σ' hv R he
theorem does_skip [Val] {o : Oper} {a : Act} {s' : S} {w' : World} {σ' : Sg} (hr : (execOp a.eval o).run P w = .ok .skip w') (R : Rel ng pr w0 σ' s' w') (he : Ext σ σ') :
    Does P ng pr w0 σ o a w .undef s' := by
  intro K Q hK
  unfold Oper.wp
  rw [hr]
  exact hK undef w' σ' (by simp only [VR]; exact ⟨#[], rfl, by simp [VRs]⟩) R he
theorem run_skip {x : Sem Unit} {w' : World} (h : x.run P w = .ok () w') : (do x; pure .skip : Sem Next).run P w = .ok .skip w' := by
  simp [h]
theorem vr_undef [Val] : VR σ .undef (.tuple #[]) := by simp only [VR]; exact ⟨#[], rfl, by simp [VRs]⟩

theorem setVal_ok [Val] {k v : V} {x y : Value} (hk : VR σ k x) (hv : VR σ v y) : ∀ {es : List (V × V)} {l : List MapEntry} {i : Nat}, EntR σ es l → i < es.length →
    EntR σ (setVal v es i k) (l.modify i fun e => { e with key := x, val := y })
  | [], l, i, _, hi => by simp at hi
  | (k', v') :: es, l, i, he, hi => by
    simp only [EntR] at he
    obtain ⟨e, l', rfl, h1, h2, h3⟩ := he
    cases i with
    | zero => simp only [setVal, List.modify_zero_cons, EntR]; exact ⟨_, _, rfl, hk, hv, h3⟩
    | succ i =>
      simp only [setVal, List.modify_succ_cons, EntR]
      exact ⟨e, _, rfl, h1, h2, setVal_ok hk hv h3 (by simpa using hi)⟩
theorem delAt_ok [Val] : ∀ {es : List (V × V)} {l : List MapEntry} {i : Nat}, EntR σ es l → EntR σ (delAt es i) (l.eraseIdx i)
  | [], l, i, he => by simp only [EntR] at he; subst he; simp [delAt, EntR]
  | (k', v') :: es, l, i, he => by
    simp only [EntR] at he
    obtain ⟨e, l', rfl, h1, h2, h3⟩ := he
    cases i with
    | zero => simpa [delAt] using h3
    | succ i => simp only [delAt, List.eraseIdx_cons_succ, EntR]; exact ⟨e, _, rfl, h1, h2, delAt_ok h3⟩
theorem EntR.snoc [Val] {k v : V} {e : MapEntry} (hk : VR σ k e.key) (hv : VR σ v e.val) : ∀ {es : List (V × V)} {l : List MapEntry}, EntR σ es l → EntR σ (es ++ [(k, v)]) (l ++ [e])
  | [], l, h => by simp only [EntR] at h; subst h; simp only [List.nil_append, EntR]; exact ⟨e, [], rfl, hk, hv, rfl⟩
  | (k', v') :: es, l, h => by
    simp only [EntR] at h
    obtain ⟨e', l', rfl, h1, h2, h3⟩ := h
    simp only [List.cons_append, EntR]
    exact ⟨e', _, rfl, h1, h2, EntR.snoc hk hv h3⟩
theorem key_same [Val] {c : Ctx} {kt : Nat} {k : V} {x y : Value} (hko : keyOk c kt k = true) (hx : VR σ k x) (hy : VR σ k y) : x = y ∧ Instr.sameBits 10000 x y = true := by
  unfold keyOk at hko
  split at hko
  case h_2 => cases hko
  split at hko
  · simp only [VR] at hx hy; subst hx; subst hy
    refine ⟨rfl, ?_⟩
    simp [Instr.sameBits]
  · simp only [VR] at hx hy
    obtain ⟨sx, rfl, hx⟩ := hx
    obtain ⟨sy, rfl, hy⟩ := hy
    have := nats_inj (hx.trans hy.symm)
    subst this
    refine ⟨rfl, ?_⟩
    simp [Instr.sameBits, beq_toListBytes]
  · cases hko

theorem mapSet_ok [Val] (T : TOk P c) (R : Rel ng pr w0 σ s w) {t : Nat} {m k v : V} {s' : S} {um uk uv : Value} (h : mapSetV c s t m k v = some s') (hm : VR σ m um) (hk : VR σ k uk) (hv : VR σ v uv) :
    ∃ w', (Instr.mapUpdate t um uk uv).run P w = .ok () w' ∧ Rel ng pr w0 σ s' w' := by
  unfold mapSetV at h
  split at h
  case h_2 => cases h
  rename_i i hi
  obtain ⟨info, d, z, h1, h2, h3, h4, h6, h7, h8, h9⟩ := T.at hi
  split at h
  case h_2 => cases h
  rename_i kt et b hkk
  rw [hkk] at h6; have := kOf_map h6; subst this
  cases hko : keyOk c kt k with
  | false => simp [hko] at h
  | true =>
  simp only [hko, cond_true] at h
  obtain ⟨dk, q1, q2, q3⟩ := keyOk_ok T hko
  simp only [VR] at hm
  obtain ⟨cb, co, ce, hσ, rfl⟩ := hm
  split at h
  case h_2 => cases h
  rename_i es hb
  obtain ⟨cb', ces, clock, g1, g2, g3⟩ := R.obj b _ hb
  rw [hσ] at g1; cases g1
  have hget : (getObj cb).run P w = .ok (.map ces clock) w := by simp [getObj, Sem.run, g2]
  have hck : (Instr.checkKey false 10000 kt uk).run P w = .ok () w := run_checkKey q1 q2
  have hset : ∀ o : Obj, (∀ a b c, o ≠ .cells a b c) → (setObj cb o).run P w = .ok () { w with heap := w.heap.setIfInBounds cb o } := by
    intro o _
    simp [setObj, Sem.run, g2]
  split at h
  · rename_i j v' hf
    obtain ⟨r', f1, f2⟩ := find_ok hk q2 q3 g3 hf
    cases r' with
    | none => exact f2.elim
    | some p =>
      obtain ⟨j', y⟩ := p
      obtain ⟨rfl, _, _, ⟨e, he1, he2⟩, hlt⟩ := f2
      cases h
      simp only [Nat.sub_zero] at he1 hlt
      obtain ⟨hkey, hbits⟩ := key_same hko he2 hk
      have he1' : ces[j]? = some e := by simpa using he1
      refine ⟨_, ?_, R.setMap hb hσ (ces := (ces.modify j fun e => { e with key := uk, val := uv })) (clock := clock) ?_⟩
      · simp only [Instr.mapUpdate, Sem.run_bind, run_underlying h2, Result.andThen_ok, hget, hck, run_findKey q1 f1, he1', Option.map_some, Option.getD_some, Instr.keyThatStays, hbits, if_true, Sem.run_pure]
        exact hset _ (by intros; simp)
      · rw [Array.toList_modify]; exact setVal_ok hk hv g3 hlt
  · rename_i hf
    obtain ⟨r', f1, f2⟩ := find_ok hk q2 q3 g3 hf
    cases r' with
    | some p => exact f2.elim
    | none =>
      cases h
      refine ⟨_, ?_, R.setMap hb hσ (ces := ces.push { key := uk, val := uv, born := clock }) (clock := clock + 1) ?_⟩
      · simp only [Instr.mapUpdate, Sem.run_bind, run_underlying h2, Result.andThen_ok, hget, hck, run_findKey q1 f1]
        exact hset _ (by intros; simp)
      · rw [Array.toList_push]; exact EntR.snoc hk hv g3
  · cases h

theorem mapDel_ok [Val] (T : TOk P c) (R : Rel ng pr w0 σ s w) {t ty : Nat} {ts : Array Nat} {m k : V} {s' : S} {um uk : Value} (h : mapDelV c s t m k = some s') (ht : ts[0]? = some t) (hm : VR σ m um) (hk : VR σ k uk) :
    ∃ w', (Builtin.delete_ ts ty #[um, uk]).run P w = .ok (.tuple #[]) w' ∧ Rel ng pr w0 σ s' w' := by
  unfold mapDelV at h
  split at h
  case h_2 => cases h
  rename_i i hi
  obtain ⟨info, d, z, h1, h2, h3, h4, h6, h7, h8, h9⟩ := T.at hi
  split at h
  case h_2 => cases h
  rename_i kt et b hkk
  rw [hkk] at h6; have := kOf_map h6; subst this
  cases hko : keyOk c kt k with
  | false => simp [hko] at h
  | true =>
  simp only [hko, cond_true] at h
  obtain ⟨dk, q1, q2, q3⟩ := keyOk_ok T hko
  simp only [VR] at hm
  obtain ⟨cb, co, ce, hσ, rfl⟩ := hm
  split at h
  case h_2 => cases h
  rename_i es hb
  obtain ⟨cb', ces, clock, g1, g2, g3⟩ := R.obj b _ hb
  rw [hσ] at g1; cases g1
  have hget : (getObj cb).run P w = .ok (.map ces clock) w := by simp [getObj, Sem.run, g2]
  have hck : ∀ e, (Instr.checkKey e 10000 kt uk).run P w = .ok () w := fun e => run_checkKey q1 q2
  have hset : ∀ o : Obj, (∀ a b c, o ≠ .cells a b c) → (setObj cb o).run P w = .ok () { w with heap := w.heap.setIfInBounds cb o } := by
    intro o _
    simp [setObj, Sem.run, g2]
  split at h
  · rename_i j v' hf
    obtain ⟨r', f1, f2⟩ := find_ok hk q2 q3 g3 hf
    cases r' with
    | none => exact f2.elim
    | some p =>
      obtain ⟨j', y⟩ := p
      obtain ⟨rfl, _, _, _, hlt⟩ := f2
      cases h
      refine ⟨_, ?_, R.setMap hb hσ (ces := ces.eraseIdxIfInBounds j) (clock := clock) ?_⟩
      · simp only [Builtin.delete_, ht, List.getElem?_toArray, List.getElem?_cons_zero, List.getElem?_cons_succ, Sem.run_bind, run_underlying h2, Result.andThen_ok, hget, hck, run_findKey q1 f1]
        rw [hset _ (by intros; simp)]
        rfl
      · rw [Array.toList_eraseIdxIfInBounds]; exact delAt_ok g3
  · rename_i hf
    obtain ⟨r', f1, f2⟩ := find_ok hk q2 q3 g3 hf
    cases r' with
    | some p => exact f2.elim
    | none =>
      cases h
      refine ⟨{ w with heap := w.heap.setIfInBounds cb (.map ces clock) }, ?_, ?_⟩
      · simp only [Builtin.delete_, ht, List.getElem?_toArray, List.getElem?_cons_zero, List.getElem?_cons_succ, Sem.run_bind, run_underlying h2, Result.andThen_ok, hget, hck, run_findKey q1 f1]
        rw [hset _ (by intros; simp)]
        rfl
      · have : w.heap.setIfInBounds cb (.map ces clock) = w.heap := by
          apply Array.ext_getElem?
          intro i
          by_cases e : i = cb
          · subst e
            rw [g2]
            have hlt : i < w.heap.size := by
              rcases Nat.lt_or_ge i w.heap.size with h' | h'
              · exact h'
              · simp [Array.getElem?_eq_none h'] at g2
            simp [hlt]
          · rw [Array.getElem?_setIfInBounds_ne (Ne.symm e)]
        rw [this]; exact R
  · cases h
end
end Go.Ai
