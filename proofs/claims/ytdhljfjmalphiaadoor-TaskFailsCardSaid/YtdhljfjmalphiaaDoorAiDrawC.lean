/- Regions that draw their order: every order comes to what the canonical one does. -/
import Derived.Test.YtdhljfjmalphiaaDoorAiDrawB
namespace Go.Ai

def cut (σ : Sg) (k : Nat) : Sg := fun b => if b < k then σ b else none
theorem cut_ext {σ : Sg} {k : Nat} : Ext (cut σ k) σ := by
  intro b x h
  unfold cut at h
  split at h
  · exact h
  · cases h
theorem cut_le {σ : Sg} {k k' : Nat} (h : k ≤ k') : Ext (cut σ k) (cut σ k') := by
  intro b x hb
  unfold cut at hb ⊢
  split at hb
  · rw [if_pos (by omega)]; exact hb
  · cases hb
theorem cut_mono {σ σ' : Sg} {k : Nat} (h : Ext σ σ') : Ext (cut σ k) (cut σ' k) := by
  intro b x hb
  unfold cut at hb ⊢
  split at hb
  · rename_i hlt; rw [if_pos hlt]; exact h _ _ hb
  · cases hb
theorem cut_lt {σ : Sg} {k b : Nat} (h : b < k) : cut σ k b = σ b := by unfold cut; rw [if_pos h]

theorem wanted_ok2 [Val] {σ : Sg} {tm : T V} {a : Act} {ops : Array Oper} {o : Oper} (hg : ∀ t ∈ looks ops.toList o, VR σ ((tm.get t).getD .undef) (a.tmps.getD t undef)) : Region.wanted o (yielded ops a.tmps) = wantedV ops tm o := by
  unfold Region.wanted wantedV yielded
  cases hgd : o.guard with
  | none => rfl
  | some p =>
    obtain ⟨j, want⟩ := p
    simp only []
    rw [nth_eq, Array.getElem?_toList]
    cases hj : (ops[j]?).bind (·.dst) with
    | none => rfl
    | some t =>
      simp only [Option.bind_some]
      have hmem : t ∈ looks ops.toList o := by
        unfold looks
        rw [hgd]
        simp only [nth_eq, Array.getElem?_toList, hj]
        simp
      have := hg t hmem
      cases ht : tm.get t with
      | none =>
        rw [ht] at this
        simp only [Option.getD_none, VR] at this
        obtain ⟨arr, h1, h2⟩ := this
        rw [Array.getD_eq_getD_getElem?] at h1
        cases hx : a.tmps[t]? with
        | none => simp
        | some x => rw [hx] at h1; simp only [Option.getD_some] at h1; subst h1; simp
      | some v =>
        rw [ht] at this
        simp only [Option.getD_some] at this
        rw [Array.getD_eq_getD_getElem?] at this
        cases hx : a.tmps[t]? with
        | none =>
          rw [hx] at this
          simp only [Option.getD_none] at this
          cases v <;> simp only [VR, undef] at this <;> first | rfl | skip
          · cases this
        | some x =>
          rw [hx] at this
          simp only [Option.getD_some] at this
          cases v <;> simp only [VR] at this
          case bool b => subst this; cases b <;> cases want <;> rfl
          case str => obtain ⟨_, rfl, _⟩ := this; rfl
          case ptr => obtain ⟨_, _, _, _, rfl⟩ := this; rfl
          case sl => obtain ⟨_, _, rfl, _⟩ := this; rfl
          case mp => obtain ⟨_, _, _, _, rfl⟩ := this; rfl
          case fn => obtain ⟨_, rfl, _⟩ := this; rfl
          case agg => obtain ⟨_, rfl, _⟩ := this; rfl
          case tup => obtain ⟨_, rfl, _⟩ := this; rfl
          case ifc => obtain ⟨_, rfl, _⟩ := this; rfl
          all_goals (subst this; rfl)

theorem Rel.pushed [Val] {ng : Nat} {pr : Prt} {w0 w w' : World} {σ : Sg} {s : S} {ob : Obj} (R : Rel ng pr w0 σ s w) (hh : w'.heap = w.heap.push ob) (ho : w'.os = w.os ∧ w'.output = w.output ∧ w'.tape = w.tape) : Rel ng pr w0 σ s w' := by
  have hold : ∀ cb, cb < w.heap.size → w'.heap[cb]? = w.heap[cb]? := fun cb h => by rw [hh, Array.getElem?_push_lt h]; simp [h]
  refine ⟨fun b o hb => (R.obj b o hb).same fun cb co ce hs => ?_, R.disj, R.fresh, fun cb hp => ?_, R.away, R.glob, ?_, R.ro, R.rolt⟩
  · obtain ⟨cb', co', ce', h1, h2⟩ := (R.obj b o hb).block
    rw [hs] at h1; cases h1
    exact hold _ h2
  · have := R.prot cb hp
    exact ⟨by rw [hh]; simp; omega, by rw [hold _ this.1]; exact this.2⟩
  · obtain ⟨a1, a2, a3, a4⟩ := R.same
    exact ⟨ho.1.trans a1, ho.2.1.trans a2, ho.2.2.trans a3, by rw [hh]; simp; omega⟩

/-- The operands that an operation looks at. -/
def lookρ (c : Ctx) (ops : List Oper) (o : Oper) (tm : T V) : Operand → Option V
  | .tmp t => cond (has t (looks ops o)) (ev c.ng tm (.tmp t)) none
  | x => ev c.ng tm x
theorem tmpsOf_mem : ∀ {l : List Operand} {t : Nat}, Operand.tmp t ∈ l → t ∈ tmpsOf l
  | x :: l, t, h => by
    cases h with
    | head => simp [tmpsOf]
    | tail _ h =>
      have := tmpsOf_mem h
      cases x <;> simp [tmpsOf, this]
theorem looks_mem {ops : List Oper} {o : Oper} {t : Nat} (h : Operand.tmp t ∈ o.op.operands.toList) : t ∈ looks ops o := by
  have := tmpsOf_mem h
  unfold looks
  split
  · split
    · exact List.mem_cons_of_mem _ this
    · exact this
  · exact this
theorem lookρ_eq {c : Ctx} {ops : List Oper} {o : Oper} {tm : T V} : ∀ x ∈ o.op.operands.toList, ev c.ng tm x = lookρ c ops o tm x := by
  intro x hx
  cases x <;> try rfl
  rename_i t
  simp only [lookρ]
  rw [has_ok.2 (looks_mem hx)]
  rfl

section
variable {P : Program} {c : Ctx} {pr : Prt} {w0 : World} {call : CallF} {n : Nat} {ops : Array Oper} {ri : RI} {recs : List Rec} {tm0 tmF : T V} {s0 sF curF : S}

/-- What is known of the canonical run. -/
structure Canon (c : Ctx) (call : CallF) (n : Nat) (ops : Array Oper) (ri : RI) (recs : List Rec) (tm0 : T V) (s0 : S) (tmF : T V) (sF curF : S) : Prop where
  ch : Chain c call n ops recs tm0 s0 s0 tmF sF curF
  ord : recs.map (·.i) = ri.ord
  ok : riOk c ops.toList ri = true
  lk : looksOk ri recs = true

theorem Canon.facts (N : Canon c call n ops ri recs tm0 s0 tmF sF curF) {A B : List Rec} {x : Rec} (h : recs = A ++ x :: B) :
    ∃ m, ops.toList[x.i]? = some x.o ∧ (masks ops.toList [])[x.i]? = some m ∧ x.i ∉ A.map (·.i) ∧ (∀ e ∈ edgesOf x.o.after.toList, e ∈ A.map (·.i)) ∧
      ∀ y ∈ A, bit m y.i = true ∨ pairOk c ops.toList ri y.i y.o x.i x.o = true := by
  have hx : x ∈ recs := by rw [h]; simp
  obtain ⟨curN, hl⟩ := chain_link N.ch x hx
  obtain ⟨_, h2⟩ := ord_facts ri.ord [] 0 N.ok (fun e => by simp [bit_eq])
  obtain ⟨y, m, q1, q2, q3, q4, q5, q6⟩ := h2 (A.map (·.i)) x.i (B.map (·.i)) (by rw [← N.ord, h]; simp)
  rw [hl.1] at q1; cases q1
  refine ⟨m, hl.1, q2, q4, fun e he => (q5 e he).resolve_left (by simp), fun z hz => ?_⟩
  obtain ⟨o, r1, r2⟩ := q6 z.i (.inr (List.mem_map_of_mem hz))
  obtain ⟨curZ, hlz⟩ := chain_link N.ch z (by rw [h]; simp [hz])
  rw [hlz.1] at r1; cases r1
  exact r2
theorem Canon.cover (N : Canon c call n ops ri recs tm0 s0 tmF sF curF) {i : Nat} (h : i < ops.size) : ∃ A x B, recs = A ++ x :: B ∧ x.i = i := by
  obtain ⟨h1, _⟩ := ord_facts ri.ord [] 0 N.ok (fun e => by simp [bit_eq])
  have := (h1 i (by simpa using h)).resolve_left (by simp)
  rw [← N.ord, List.mem_map] at this
  obtain ⟨x, hx, e⟩ := this
  obtain ⟨A, B, h⟩ := List.append_of_mem hx
  exact ⟨A, x, B, h, e⟩
theorem Canon.inj (N : Canon c call n ops ri recs tm0 s0 tmF sF curF) {x y : Rec} (hx : x ∈ recs) (hy : y ∈ recs) (h : x.i = y.i) : x = y := by
  obtain ⟨A, B, e⟩ := List.append_of_mem hx
  rw [e] at hy
  rcases List.mem_append.1 hy with hy | hy
  · obtain ⟨m, _, _, q, _⟩ := N.facts e
    exact absurd (by rw [h]; exact List.mem_map_of_mem hy) q
  · cases hy with
    | head => rfl
    | tail _ hy =>
      obtain ⟨B1, B2, e2⟩ := List.append_of_mem hy
      obtain ⟨m, _, _, q, _⟩ := N.facts (A := A ++ x :: B1) (x := y) (B := B2) (by rw [e, e2]; simp)
      exact absurd (by rw [← h]; simp) q
/-- Of two operations of which the later one is done, and the elder one is not: the later one doesn't hang on it. -/
theorem Canon.pair (N : Canon c call n ops ri recs tm0 s0 tmF sF curF) {A B C : List Rec} {x y : Rec} (h : recs = A ++ x :: B ++ y :: C) {D : Nat → Prop} (hc : Closed ops.toList D) (hy : D y.i ∨ ∀ e ∈ edgesOf y.o.after.toList, D e) (hx : ¬ D x.i) :
    pairOk c ops.toList ri x.i x.o y.i y.o = true := by
  obtain ⟨m, q1, q2, q3, q4, q5⟩ := N.facts (A := A ++ x :: B) (x := y) (B := C) (by rw [h])
  rcases q5 x (by simp) with h | h
  · exact absurd (closed_mask hc y.i m y.o q2 q1 (hy.elim (fun h => hc y.i y.o q1 h) id) x.i h) hx
  · exact h

theorem apart_of_pair {i j : Nat} {x y : Oper} (h : pairOk c ops.toList ri i x j y = true) :
    (∀ d, x.dst = some d → d ∉ looks ops.toList y ∧ y.dst ≠ some d) ∧ ∀ d, y.dst = some d → d ∉ looks ops.toList x := by
  unfold pairOk at h
  simp only [Bool.and_eq_true] at h
  obtain ⟨h, _⟩ := h
  unfold apartT at h
  simp only [Bool.and_eq_true] at h
  obtain ⟨h1, h2⟩ := h
  refine ⟨fun d hd => ?_, fun d hd => ?_⟩
  · rw [hd] at h1
    simp only [Bool.and_eq_true, Bool.not_eq_true'] at h1
    refine ⟨fun hm => ?_, fun hy => ?_⟩
    · rw [has_ok.2 hm] at h1; cases h1.1
    · rw [hy] at h1
      simp at h1
  · rw [hd] at h2
    simp only [Bool.not_eq_true'] at h2
    intro hm
    rw [has_ok.2 hm] at h2; cases h2

/-- What an operation looks at is what it looks at in the canonical run. -/
theorem Canon.operand (N : Canon c call n ops ri recs tm0 s0 tmF sF curF) {A B : List Rec} {x : Rec} (h : recs = A ++ x :: B) {D : Nat → Bool} (hc : Closed ops.toList (fun i => D i = true)) (hx : D x.i = false)
    (hp : ∀ e ∈ edgesOf x.o.after.toList, D e = true) {t : Nat} (ht : t ∈ looks ops.toList x.o) (b : Nat) :
    valD D t recs ((tm0.get t).getD .undef, b) = valD (fun _ => true) t A ((tm0.get t).getD .undef, b) := by
  rw [h, valD_append]
  have h1 : valD D t A ((tm0.get t).getD .undef, b) = valD (fun _ => true) t A ((tm0.get t).getD .undef, b) := by
    refine valD_congr A _ fun y hy hd => ?_
    by_cases e : D y.i = true
    · exact e
    · obtain ⟨A1, A2, e2⟩ := List.append_of_mem hy
      have := N.pair (A := A1) (B := A2) (C := B) (x := y) (y := x) (by rw [h, e2]) hc (.inr hp) e
      exact absurd ht ((apart_of_pair this).1 t hd).1
  rw [h1]
  refine valD_none (x :: B) _ fun y hy hd => ?_
  cases hy with
  | head => exact hx
  | tail _ hy =>
    cases e : D y.i with
    | false => rfl
    | true =>
      obtain ⟨B1, B2, e2⟩ := List.append_of_mem hy
      have := N.pair (A := A) (B := B1) (C := B2) (x := x) (y := y) (by rw [h, e2]; simp) hc (.inl e) (by rw [hx]; simp)
      exact absurd ht ((apart_of_pair this).2 t hd)
/-- What an operation writes is what stands there then. -/
theorem Canon.written (N : Canon c call n ops ri recs tm0 s0 tmF sF curF) {A B : List Rec} {x : Rec} (h : recs = A ++ x :: B) {D : Nat → Bool} (hc : Closed ops.toList (fun i => D i = true)) (hx : D x.i = false)
    (t : Nat) (v : V × Nat) : valD (fun i => D i || i == x.i) t recs v = if x.o.dst = some t then (x.val, x.sN.next) else valD D t recs v := by
  by_cases e : x.o.dst = some t
  · rw [if_pos e, h, valD_append]
    simp only [valD]
    rw [if_pos ⟨by simp, e⟩]
    refine valD_none B _ fun y hy hd => ?_
    obtain ⟨B1, B2, e2⟩ := List.append_of_mem hy
    have hne : y.i ≠ x.i := by
      intro he
      obtain ⟨m, _, _, q, _⟩ := N.facts (A := A ++ x :: B1) (x := y) (B := B2) (by rw [h, e2]; simp)
      exact q (by rw [he]; simp)
    cases e3 : D y.i with
    | false => simp [hne]
    | true =>
      have := N.pair (A := A) (B := B1) (C := B2) (x := x) (y := y) (by rw [h, e2]; simp) hc (.inl e3) (by rw [hx]; simp)
      exact absurd hd ((apart_of_pair this).1 t e).2
  · rw [if_neg e]
    refine valD_congr recs v fun y hy hd => ?_
    by_cases e2 : y.i = x.i
    · have := N.inj hy (by rw [h]; simp) e2
      subst this
      exact absurd hd e
    · simp [e2]
end
end Go.Ai
