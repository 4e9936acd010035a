/- From a run of the evaluator to a statement of a call; the looks at the tables. -/
import Derived.Test.YtdhljfjmalphiaaDoorAiCode
import Derived.ChangeSame
import Derived.WalkKit
import Derived.ProofKit
import Derived.OpenShut
import Derived.Deep.DeepHandedRow
namespace Go.Ai

-- all of a trie
def T.allB {α : Type} (f : Nat → α → Bool) : T α → Nat → Nat → Bool
  | .leaf, _, _ => true
  | .node v l r, b, s => (match v with | some x => f b x | none => true) && T.allB f l (b + s) (s + s) && T.allB f r (b + s + s) (s + s)
theorem T.allB_ok {α : Type} {f : Nat → α → Bool} : ∀ {t : T α} {b s : Nat}, T.allB f t b s = true → ∀ k x, t.get k = some x → f (b + s * k) x = true
  | .leaf, b, s, _, k, x, h => by cases k <;> cases h
  | .node v l r, b, s, h, k, x, hk => by
    simp only [T.allB, Bool.and_eq_true] at h
    obtain ⟨⟨h1, h2⟩, h3⟩ := h
    cases k with
    | zero =>
      simp only [T.get] at hk
      subst hk
      simpa using h1
    | succ j =>
      simp only [T.get] at hk
      cases hj : Nat.beq (j % 2) 0 with
      | true =>
        simp only [hj, cond_true] at hk
        have := T.allB_ok h2 _ _ hk
        have hj' := Nat.eq_of_beq_eq_true hj
        have : b + s + (s + s) * (j / 2) = b + s * (j + 1) := by
          obtain ⟨m, rfl⟩ : ∃ m, j = 2 * m := ⟨j / 2, by omega⟩
          rw [show 2 * m / 2 = m by omega, Nat.mul_add, Nat.mul_one, ← Nat.mul_assoc, Nat.mul_comm s 2, Nat.two_mul s]
          omega
        rw [← this]; assumption
      | false =>
        simp only [hj, cond_false] at hk
        have := T.allB_ok h3 _ _ hk
        have hj' := Nat.ne_of_beq_eq_false hj
        have : b + s + s + (s + s) * (j / 2) = b + s * (j + 1) := by
          obtain ⟨m, rfl⟩ : ∃ m, j = 2 * m + 1 := ⟨j / 2, by omega⟩
          rw [show (2 * m + 1) / 2 = m by omega, show 2 * m + 1 + 1 = 2 * m + 2 by omega, Nat.mul_add s, ← Nat.mul_assoc, Nat.mul_comm s 2, Nat.two_mul s]
          omega
        rw [← this]; assumption

def fsEq : List (Nat × Nat × Nat × Bool) → List (Nat × Nat × Nat × Bool) → Bool
  | [], [] => true
  | (a, b, c, d) :: l, (a', b', c', d') :: m => Nat.beq a a' && Nat.beq b b' && Nat.beq c c' && d == d' && fsEq l m
  | _, _ => false
theorem fsEq_ok : ∀ {l m : List (Nat × Nat × Nat × Bool)}, fsEq l m = true → l = m
  | [], [], _ => rfl
  | [], _ :: _, h => by simp [fsEq] at h
  | (_, _, _, _) :: _, [], h => by simp [fsEq] at h
  | (a, b, c, d) :: l, (a', b', c', d') :: m, h => by
    simp only [fsEq, Bool.and_eq_true, Nat.beq_eq, beq_iff_eq] at h
    obtain ⟨⟨⟨⟨rfl, rfl⟩, rfl⟩, rfl⟩, h⟩ := h
    rw [fsEq_ok h]
def kEq : K → K → Bool
  | .bool, .bool | .str, .str | .ifc, .ifc | .func, .func | .other, .other | .usp, .usp => true
  | .int a, .int b => kindEq a b
  | .ptr a, .ptr b | .slice a, .slice b => Nat.beq a b
  | .arr a b, .arr c d | .map a b, .map c d => Nat.beq a c && Nat.beq b d
  | .struct a, .struct b => fsEq a b
  | _, _ => false
theorem kEq_ok {a b : K} (h : kEq a b = true) : a = b := by
  unfold kEq at h
  split at h <;> first | rfl | skip
  · rw [kindEq_eq.1 h]
  · rw [Nat.eq_of_beq_eq_true h]
  · rw [Nat.eq_of_beq_eq_true h]
  · simp only [Bool.and_eq_true, Nat.beq_eq] at h; rw [h.1, h.2]
  · simp only [Bool.and_eq_true, Nat.beq_eq] at h; rw [h.1, h.2]
  · rw [fsEq_ok h]
  · cases h
def tiEq (a : Option TI) (b : TI) : Bool :=
  match a with
  | some a => kEq a.k b.k && Nat.beq a.size b.size && Nat.beq a.bytes b.bytes && beqV 4 a.zv b.zv && a.cmp == b.cmp && a.agg == b.agg
  | none => false
theorem tiEq_ok {a : Option TI} {b : TI} (h : tiEq a b = true) : a = some b := by
  unfold tiEq at h
  split at h
  · rename_i a
    simp only [Bool.and_eq_true, Nat.beq_eq, beq_iff_eq] at h
    obtain ⟨⟨⟨⟨⟨h1, h2⟩, h3⟩, h4⟩, h5⟩, h6⟩ := h
    cases a; cases b
    simp only at h1 h2 h3 h4 h5 h6
    rw [kEq_ok h1, h2, h3, beqV_ok _ _ _ h4, h5, h6]
  · cases h
def ttOk (P : Program) (tt : T TI) : Bool := T.allB (fun t i => tiEq (mkTI P t i.cmp) i) tt 0 1
theorem tok_of [Val] {P : Program} {c : Ctx} (h : ttOk P c.tt = true) (ho : OrcOk P c.orc) : TOk P c :=
  ⟨fun t i hi => by
    have := T.allB_ok h t i hi
    simp only [Nat.zero_add, Nat.one_mul] at this
    exact mkTI_ok (tiEq_ok this), ho⟩
theorem orc_none [Val] {P : Program} : OrcOk P (fun _ _ => none) := fun _ _ _ h => by cases h
def codesOk (c : Ctx) : Bool := T.allB (fun f fn => match fn.body with | some code => codeOk c f code | none => true) c.ft 0 1
theorem codes_of {c : Ctx} (h : codesOk c = true) : CodesOk c := by
  intro f fn code hf hb
  have := T.allB_ok h f fn hf
  simp only [Nat.zero_add, Nat.one_mul, hb] at this
  exact this
/-- The functions of a trie, one by one. -/
def T.All {α : Type} (p : Nat → α → Prop) : T α → Nat → Nat → Prop
  | .leaf, _, _ => True
  | .node v l r, b, s => (match v with | some x => p b x | none => True) ∧ T.All p l (b + s) (s + s) ∧ T.All p r (b + s + s) (s + s)
theorem T.All_ok {α : Type} {p : Nat → α → Prop} : ∀ {t : T α} {b s : Nat}, T.All p t b s → ∀ k x, t.get k = some x → p (b + s * k) x
  | .leaf, b, s, _, k, x, h => by cases k <;> cases h
  | .node v l r, b, s, h, k, x, hk => by
    simp only [T.All] at h
    obtain ⟨h1, h2, h3⟩ := h
    cases k with
    | zero =>
      simp only [T.get] at hk
      subst hk
      simpa using h1
    | succ j =>
      simp only [T.get] at hk
      cases hj : Nat.beq (j % 2) 0 with
      | true =>
        simp only [hj, cond_true] at hk
        have := T.All_ok h2 _ _ hk
        have hj' := Nat.eq_of_beq_eq_true hj
        have : b + s + (s + s) * (j / 2) = b + s * (j + 1) := by
          obtain ⟨m, rfl⟩ : ∃ m, j = 2 * m := ⟨j / 2, by omega⟩
          rw [show 2 * m / 2 = m by omega, Nat.mul_add, Nat.mul_one, ← Nat.mul_assoc, Nat.mul_comm s 2, Nat.two_mul s]
          omega
        rw [← this]; assumption
      | false =>
        simp only [hj, cond_false] at hk
        have := T.All_ok h3 _ _ hk
        have hj' := Nat.ne_of_beq_eq_false hj
        have : b + s + s + (s + s) * (j / 2) = b + s * (j + 1) := by
          obtain ⟨m, rfl⟩ : ∃ m, j = 2 * m + 1 := ⟨j / 2, by omega⟩
          rw [show (2 * m + 1) / 2 = m by omega, show 2 * m + 1 + 1 = 2 * m + 2 by omega, Nat.mul_add s, ← Nat.mul_assoc, Nat.mul_comm s 2, Nat.two_mul s]
          omega
        rw [← this]; assumption
def FnIs (P : Program) (f : Nat) (fn : Func) : Prop := P.funcs[f]? = some fn ∧ (fn.name == "runtime.NumGoroutine") = false
theorem ft_of {P : Program} {c : Ctx} (h : T.All (FnIs P) c.ft 0 1) : FtOk P c := by
  intro f fn hf
  have := T.All_ok h f fn hf
  rw [Nat.zero_add, Nat.one_mul] at this
  exact this

-- values without a place in memory
def V.bare : Nat → V → Bool
  | 0, _ => false
  | d + 1, v => match v with
    | .bool _ | .int .. | .str _ | .nil | .nilsl | .nilmp | .nilfn | .nilifc | .sint .. | .sstr _ => true
    | .agg cs | .tup cs | .fn _ cs => bares (V.bare d) cs
    | .ifc _ v => V.bare d v
    | _ => false
where
  bares (f : V → Bool) : List V → Bool
    | [] => true
    | a :: l => f a && bares f l
theorem V.bare_ok [Val] {σ σ' : Sg} : ∀ (d : Nat) (v : V) (x : Value), v.bare d = true → VR σ v x → VR σ' v x := by
  have all : ∀ (f : V → Bool) (hf : ∀ v x, f v = true → VR σ v x → VR σ' v x) (l : List V) (xs : List Value), V.bare.bares f l = true → VRs σ l xs → VRs σ' l xs := by
    intro f hf l
    induction l with
    | nil => intro xs _ h; simpa [VRs] using h
    | cons a l ih =>
      intro xs hb h
      simp only [V.bare.bares, Bool.and_eq_true] at hb
      simp only [VRs] at h ⊢
      obtain ⟨y, ys, h1, h2, h3⟩ := h
      exact ⟨y, ys, h1, hf a y hb.1 h2, ih ys hb.2 h3⟩
  intro d
  induction d with
  | zero => intro v x h; simp [V.bare] at h
  | succ d ih =>
    intro v x hb h
    cases v <;> simp only [V.bare] at hb <;> first | (cases hb; done) | skip
    case agg cs =>
      simp only [VR] at h ⊢
      obtain ⟨arr, h1, h2⟩ := h
      exact ⟨arr, h1, all _ ih _ _ hb h2⟩
    case tup cs =>
      simp only [VR] at h ⊢
      obtain ⟨arr, h1, h2⟩ := h
      exact ⟨arr, h1, all _ ih _ _ hb h2⟩
    case fn f cs =>
      simp only [VR] at h ⊢
      obtain ⟨arr, h1, h2⟩ := h
      exact ⟨arr, h1, all _ ih _ _ hb h2⟩
    case ifc t v =>
      simp only [VR] at h ⊢
      obtain ⟨y, h1, h2⟩ := h
      exact ⟨y, h1, ih _ _ hb h2⟩
    all_goals simpa only [VR] using h
theorem V.bares_ok [Val] {σ σ' : Sg} (d : Nat) : ∀ (l : List V) (xs : List Value), V.bare.bares (V.bare d) l = true → VRs σ l xs → VRs σ' l xs
  | [], xs, _, h => by simpa [VRs] using h
  | a :: l, xs, hb, h => by
    simp only [V.bare.bares, Bool.and_eq_true] at hb
    simp only [VRs] at h ⊢
    obtain ⟨y, ys, h1, h2, h3⟩ := h
    exact ⟨y, ys, h1, V.bare_ok d a y hb.1 h2, V.bares_ok d l ys hb.2 h3⟩

/-- Where nothing is known but where the package's variables lie. -/
def sg0 (ng : Nat) : Sg := fun g => if g < ng then some (g, 0, 0) else none
def s0 (ng : Nat) : S := ⟨.leaf, ng⟩
theorem rel0 [Val] (ng : Nat) (w : World) : Rel ng (fun cb => cb < w.heap.size, fun _ => False) w (sg0 ng) (s0 ng) w := by
  refine ⟨fun b o h => ?_, fun b b' o o' cb co ce co' ce' _ h => ?_, fun b h => ?_, fun cb h => ⟨h, rfl⟩, fun b o cb co ce h => ?_, ⟨Nat.le_refl _, fun g h => ⟨0, by unfold sg0; rw [if_pos h]⟩⟩, ⟨rfl, rfl, rfl, Nat.le_refl _⟩, fun b o cb co ce h => ?_, fun cb h => h.elim⟩
  · simp only [s0, T.get_leaf] at h; cases h
  · simp only [s0, T.get_leaf] at h; cases h
  · unfold sg0; rw [if_neg (by simpa [s0] using h)]
  · simp only [s0, T.get_leaf] at h; cases h
  · simp only [s0, T.get_leaf] at h; cases h
/-- More blocks, and the old ones as they were. -/
theorem Rel.grow [Val] {ng : Nat} {pr : Prt} {w0 w w' : World} {σ : Sg} {s : S} (R : Rel ng pr w0 σ s w) (hh : ∀ cb, cb < w.heap.size → w'.heap[cb]? = w.heap[cb]?) (hs : w.heap.size ≤ w'.heap.size) (ho : w'.os = w.os ∧ w'.output = w.output ∧ w'.tape = w.tape) :
    Rel ng pr w0 σ s w' := by
  refine ⟨fun b o hb => (R.obj b o hb).same fun cb co ce hσ => ?_, R.disj, R.fresh, fun cb hp => ?_, R.away, R.glob, ?_, R.ro, R.rolt⟩
  · obtain ⟨cb', co', ce', h1, h2⟩ := (R.obj b o hb).block
    rw [hσ] at h1; cases h1
    exact hh _ h2
  · have := R.prot cb hp
    exact ⟨by omega, by rw [hh _ this.1]; exact this.2⟩
  · obtain ⟨a1, a2, a3, a4⟩ := R.same
    exact ⟨ho.1.trans a1, ho.2.1.trans a2, ho.2.2.trans a3, by omega⟩

section
variable {P : Program} {ng : Nat} {call : CallF}
/-- What a function gives that takes and gives no places in memory: once run, it is known. -/
theorem herm [Val] {f : Nat} {args : List V} {v : V} {s1 : S} (Cl : CallOk P ng call) (h : call f args (s0 ng) = some (v, s1)) (ha : V.bare.bares (V.bare 8) args = true) (hv : v.bare 8 = true)
    (pr : Prt) (w0 : World) (σ : Sg) (s : S) (w : World) (cargs : Array Value) (R : Rel ng pr w0 σ s w) (hargs : VRs σ args cargs.toList) :
    Calls P f cargs w fun e w' => ∃ cv σ', e = .returned cv ∧ VR σ' v cv ∧ Rel ng pr w0 σ' s w' ∧ Ext σ σ' := by
  refine (Cl f args _ v s1 h _ _ _ w cargs (rel0 ng w) (V.bares_ok 8 _ _ ha hargs)).mono fun e w' ⟨cv, σ', he, hcv, R', _⟩ => ?_
  refine ⟨cv, σ, he, V.bare_ok 8 _ _ hv hcv, R.grow (fun cb hc => (R'.prot cb hc).2) R'.same.2.2.2 ⟨R'.same.1, R'.same.2.1, R'.same.2.2.1⟩, Ext.refl _⟩

/-- A closed run. -/
theorem closed_run [Val] {f : Nat} {v : V} {s1 : S} (Cl : CallOk P ng call) (h : call f [] (s0 ng) = some (v, s1)) (hv : v.bare 8 = true) (w : World) :
    Calls P f #[] w fun e w' => ∃ cv, e = .returned cv ∧ VR (fun _ => none) v cv ∧ (∀ cb, cb < w.heap.size → w'.heap[cb]? = w.heap[cb]?) ∧ w.heap.size ≤ w'.heap.size ∧ w'.os = w.os ∧ w'.output = w.output := by
  refine (Cl f [] _ v s1 h _ _ _ w #[] (rel0 ng w) (by simp [VRs])).mono fun e w' ⟨cv, σ', he, hcv, R', _⟩ => ?_
  exact ⟨cv, he, V.bare_ok 8 _ _ hv hcv, fun cb hc => (R'.prot cb hc).2, R'.same.2.2.2, R'.same.1, R'.same.2.1⟩
end

/-- A heap whose old blocks stand: what a law's statement asks. -/
theorem kept_of {W W' : World} (hh : ∀ cb, cb < W.heap.size → W'.heap[cb]? = W.heap[cb]?) (ho : W'.os = W.os) (hp : W'.output = W.output) (may : MemPlace → Prop) : W.keptBut W' may := by
  refine ⟨ho, hp, fun i hi => ?_⟩
  rw [hh i hi]
  cases W.heap[i]? with
  | none => rfl
  | some o => cases o <;> first | rfl | exact ⟨rfl, rfl, rfl, fun _ _ => rfl⟩ | exact .inr ⟨rfl, rfl⟩
end Go.Ai
