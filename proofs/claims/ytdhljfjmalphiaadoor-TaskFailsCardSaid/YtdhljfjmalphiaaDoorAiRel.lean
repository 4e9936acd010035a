/- What the evaluator's values and heap stand for in the model's memory, and the lemmas on them. -/
import Derived.Test.YtdhljfjmalphiaaDoorAiTab
import Derived.Laws.Sem
import Derived.Laws.Cells
import Derived.Laws.World
import Derived.Laws.IdiomCopy
namespace Go.Ai

namespace T
variable {α : Type}
theorem get_setF : ∀ (n : Nat) (t : T α) (k : Nat) (x : Option α) (j : Nat), k < n → (setF n t k x).get j = if j = k then x else t.get j := by
  intro n
  induction n with
  | zero => intro t k x j h; omega
  | succ n ih =>
    intro t k x j h
    cases t with
    | leaf =>
      cases k with
      | zero => cases j <;> simp [setF, get]
      | succ m =>
        simp only [setF]
        cases hm : Nat.beq (m % 2) 0
        · cases j with
          | zero => simp [get]
          | succ j =>
            simp only [cond_false, get]
            cases hj : Nat.beq (j % 2) 0
            · simp only [cond_false]; rw [ih _ _ _ _ (by omega)]
              have h1 : m % 2 = 1 := by have := Nat.ne_of_beq_eq_false hm; omega
              have h2 : j % 2 = 1 := by have := Nat.ne_of_beq_eq_false hj; omega
              by_cases e : j = m
              · subst e; simp
              · rw [if_neg (by omega), if_neg (by omega)]; rfl
            · simp only [cond_true]
              have h1 : m % 2 = 1 := by have := Nat.ne_of_beq_eq_false hm; omega
              have h2 : j % 2 = 0 := Nat.eq_of_beq_eq_true hj
              rw [if_neg (by omega)]
        · cases j with
          | zero => simp [get]
          | succ j =>
            simp only [cond_true, get]
            cases hj : Nat.beq (j % 2) 0
            · simp only [cond_false]
              have h1 : m % 2 = 0 := Nat.eq_of_beq_eq_true hm
              have h2 : j % 2 = 1 := by have := Nat.ne_of_beq_eq_false hj; omega
              rw [if_neg (by omega)]
            · simp only [cond_true]; rw [ih _ _ _ _ (by omega)]
              have h1 : m % 2 = 0 := Nat.eq_of_beq_eq_true hm
              have h2 : j % 2 = 0 := Nat.eq_of_beq_eq_true hj
              by_cases e : j = m
              · subst e; simp
              · rw [if_neg (by omega), if_neg (by omega)]; rfl
    | node v l r =>
      cases k with
      | zero => cases j <;> simp [setF, get]
      | succ m =>
        simp only [setF]
        cases hm : Nat.beq (m % 2) 0
        · cases j with
          | zero => simp [get]
          | succ j =>
            simp only [cond_false, get]
            cases hj : Nat.beq (j % 2) 0
            · simp only [cond_false]; rw [ih _ _ _ _ (by omega)]
              have h1 : m % 2 = 1 := by have := Nat.ne_of_beq_eq_false hm; omega
              have h2 : j % 2 = 1 := by have := Nat.ne_of_beq_eq_false hj; omega
              by_cases e : j = m
              · subst e; simp
              · rw [if_neg (by omega), if_neg (by omega)]
            · simp only [cond_true]
              have h1 : m % 2 = 1 := by have := Nat.ne_of_beq_eq_false hm; omega
              have h2 : j % 2 = 0 := Nat.eq_of_beq_eq_true hj
              rw [if_neg (by omega)]
        · cases j with
          | zero => simp [get]
          | succ j =>
            simp only [cond_true, get]
            cases hj : Nat.beq (j % 2) 0
            · simp only [cond_false]
              have h1 : m % 2 = 0 := Nat.eq_of_beq_eq_true hm
              have h2 : j % 2 = 1 := by have := Nat.ne_of_beq_eq_false hj; omega
              rw [if_neg (by omega)]
            · simp only [cond_true]; rw [ih _ _ _ _ (by omega)]
              have h1 : m % 2 = 0 := Nat.eq_of_beq_eq_true hm
              have h2 : j % 2 = 0 := Nat.eq_of_beq_eq_true hj
              by_cases e : j = m
              · subst e; simp
              · rw [if_neg (by omega), if_neg (by omega)]
theorem get_set (t : T α) (k : Nat) (x : α) (j : Nat) : (t.set k x).get j = if j = k then some x else t.get j :=
  get_setF _ _ _ _ _ (Nat.lt_succ_self k)
theorem get_del (t : T α) (k j : Nat) : (t.del k).get j = if j = k then none else t.get j :=
  get_setF _ _ _ _ _ (Nat.lt_succ_self k)
theorem get_leaf (k : Nat) : (leaf : T α).get k = none := rfl
theorem get_ofListFrom : ∀ (l : List α) (i : Nat) (t : T α) (j : Nat), (ofListFrom l i t).get j = if i ≤ j ∧ j < i + l.length then l[j - i]? else t.get j
  | [], i, t, j => by simp only [ofListFrom, List.length_nil, Nat.add_zero]; rw [if_neg (by omega)]
  | x :: l, i, t, j => by
    simp only [ofListFrom, List.length_cons]
    rw [get_ofListFrom l (i + 1) (t.set i x) j, get_set]
    by_cases h : i + 1 ≤ j ∧ j < i + 1 + l.length
    · rw [if_pos h, if_pos (by omega)]
      obtain ⟨m, rfl⟩ : ∃ m, j = i + 1 + m := ⟨j - (i + 1), by omega⟩
      rw [show i + 1 + m - (i + 1) = m by omega, show i + 1 + m - i = m + 1 by omega]; rfl
    · rw [if_neg h]
      by_cases e : j = i
      · subst e; rw [if_pos rfl, if_pos (by omega)]; simp
      · rw [if_neg e, if_neg (by omega)]
end T

-- lists
theorem nth_eq {α : Type} : ∀ (l : List α) (n : Nat), nth l n = l[n]?
  | [], n => by simp [nth]
  | a :: l, 0 => by simp [nth]
  | a :: l, n + 1 => by simp [nth, nth_eq l n]
theorem dropN_eq {α : Type} : ∀ (n : Nat) (l : List α), dropN n l = l.drop n
  | 0, l => by simp [dropN]
  | n + 1, [] => by simp [dropN]
  | n + 1, _ :: l => by simp [dropN, dropN_eq n l]
theorem takeN_some {α : Type} : ∀ (n : Nat) (l r : List α), takeN n l = some r → r = l.take n ∧ n ≤ l.length
  | 0, l, r, h => by simp [takeN] at h; simp [h]
  | n + 1, [], r, h => by simp [takeN] at h
  | n + 1, a :: l, r, h => by
    simp only [takeN] at h
    cases hh : takeN n l with
    | none => simp [hh] at h
    | some q =>
      simp only [hh, Option.some.injEq] at h
      obtain ⟨h1, h2⟩ := takeN_some n l q hh
      subst h; subst h1; simp; omega
theorem sub_some {α : Type} {l r : List α} {o n : Nat} (h : sub l o n = some r) : r = (l.drop o).take n ∧ r.length = n ∧ (n = 0 ∨ o + n ≤ l.length) := by
  unfold sub at h
  rw [dropN_eq] at h
  obtain ⟨h1, h2⟩ := takeN_some _ _ _ h
  simp at h2
  refine ⟨h1, by subst h1; simp; omega, by omega⟩
theorem sub_get {α : Type} {l r : List α} {o n : Nat} (h : sub l o n = some r) (i : Nat) (hi : i < n) : r[i]? = l[o + i]? := by
  obtain ⟨h1, h2, h3⟩ := sub_some h
  subst h1
  simp [List.getElem?_drop, hi]
theorem over_some {α : Type} : ∀ (l vs r : List α), over l vs = some r → r = vs ++ l.drop vs.length ∧ vs.length ≤ l.length
  | l, [], r, h => by cases l <;> simp [over] at h <;> simp [h]
  | [], _ :: _, r, h => by simp [over] at h
  | a :: l, v :: vs, r, h => by
    simp only [over] at h
    cases hh : over l vs with
    | none => simp [hh] at h
    | some q =>
      simp only [hh, Option.some.injEq] at h
      obtain ⟨h1, h2⟩ := over_some l vs q hh
      subst h; subst h1; simp; omega
theorem upd_some {α : Type} : ∀ (l : List α) (o : Nat) (vs r : List α), upd l o vs = some r →
    r.length = l.length ∧ o + vs.length ≤ l.length ∧ ∀ i, r[i]? = if o ≤ i ∧ i < o + vs.length then vs[i - o]? else l[i]?
  | l, 0, vs, r, h => by
    have h' : over l vs = some r := by cases l <;> simpa [upd] using h
    obtain ⟨h1, h2⟩ := over_some l vs r h'
    subst h1
    refine ⟨by simp; omega, by omega, fun i => ?_⟩
    by_cases hi : i < vs.length
    · rw [if_pos (by omega), List.getElem?_append_left hi]; simp
    · rw [if_neg (by omega), List.getElem?_append_right (by omega), List.getElem?_drop]
      congr 1; omega
  | [], o + 1, vs, r, h => by simp [upd] at h
  | a :: l, o + 1, vs, r, h => by
    simp only [upd] at h
    cases hh : upd l o vs with
    | none => simp [hh] at h
    | some q =>
      simp only [hh, Option.some.injEq] at h
      obtain ⟨h1, h2, h3⟩ := upd_some l o vs q hh
      subst h
      refine ⟨by simp [h1], by simp; omega, fun i => ?_⟩
      cases i with
      | zero => simp
      | succ i =>
        simp only [List.getElem?_cons_succ, h3 i]
        by_cases hi : o ≤ i ∧ i < o + vs.length
        · rw [if_pos hi, if_pos (by omega)]; congr 1; omega
        · rw [if_neg hi, if_neg (by omega)]

-- numbers
theorem lim_eq (k : IntKind) : (lim k : Int) = if k.signed then 2 ^ (k.bits - 1) else 2 ^ k.bits := by cases k <;> rfl
theorem wrap_self {k : IntKind} {n : Int} (h0 : 0 ≤ n) (h1 : n < lim k) : k.wrap n = n := by
  cases k <;> simp [lim] at h1 <;> simp [IntKind.wrap, IntKind.bits, IntKind.signed] <;> omega
theorem wrap_neg {k : IntKind} {n : Int} (hs : k.signed = true) (h0 : n < 0) (h1 : -(lim k : Int) ≤ n) : k.wrap n = n := by
  cases k <;> simp [IntKind.signed] at hs <;> simp [lim] at h1 <;> simp [IntKind.wrap, IntKind.bits, IntKind.signed] <;> omega
theorem wrapF_eq (k : IntKind) (n : Int) : wrapF k n = k.wrap n := by
  cases n with
  | ofNat m =>
    simp only [wrapF]
    cases h : Nat.blt m (lim k)
    · rfl
    · simp only [cond_true]
      have h' : m < lim k := by simpa [Nat.blt_eq] using h
      exact (wrap_self (by simp) (by simpa using h')).symm
  | negSucc m =>
    simp only [wrapF]
    cases h : (k.signed && Nat.blt m (lim k))
    · rfl
    · simp only [cond_true]
      simp only [Bool.and_eq_true, Nat.blt_eq] at h
      exact (wrap_neg h.1 (Int.negSucc_lt_zero m) (by have := h.2; omega)).symm
theorem ltF_eq (a b : Int) : ltF a b = decide (a < b) := by
  cases a with
  | ofNat m => cases b with
    | ofNat n => simp only [ltF]; rw [Bool.eq_iff_iff, Nat.blt_eq]; simp
    | negSucc n => simp only [ltF]; symm; simp; omega
  | negSucc m => cases b with
    | ofNat n => simp only [ltF]; symm; simp; omega
    | negSucc n => simp only [ltF]; rw [Bool.eq_iff_iff, Nat.blt_eq]; simp; omega
theorem eqF_eq (a b : Int) : eqF a b = (a == b) := by
  cases a with
  | ofNat m => cases b with
    | ofNat n => simp only [eqF]; rw [Bool.eq_iff_iff, Nat.beq_eq]; simp; omega
    | negSucc n => simp only [eqF]; symm; simp
  | negSucc m => cases b with
    | ofNat n => simp only [eqF]; symm; simp
    | negSucc n => simp only [eqF]; rw [Bool.eq_iff_iff, Nat.beq_eq]; simp
theorem kindEq_eq {a b : IntKind} : kindEq a b = true ↔ a = b := by cases a <;> cases b <;> simp [kindEq]

-- strings
abbrev nats (s : ByteArray) : List Nat := s.data.toList.map UInt8.toNat
theorem nats_inj {s t : ByteArray} (h : nats s = nats t) : s = t := by
  have : s.data.toList = t.data.toList := List.map_inj_right (fun a b h => UInt8.toNat_inj.1 h) |>.1 h
  cases s; cases t; congr; exact Array.ext' this
theorem strEq_eq : ∀ a b : List Nat, strEq a b = decide (a = b)
  | [], [] => by simp [strEq]
  | [], _ :: _ => by simp [strEq]
  | _ :: _, [] => by simp [strEq]
  | a :: l, b :: m => by
    simp only [strEq, strEq_eq l m, List.cons.injEq, Bool.decide_and]
    congr 1
    rw [Bool.eq_iff_iff, Nat.beq_eq]; simp

/-- Where a block lies: the model's block, where it begins there, where its reach ends. -/
abbrev Sg := Nat → Option (Nat × Nat × Nat)

/-- What stands for the values that are not known. -/
class Val where
  num : Nat → Int
  str : Nat → ByteArray
mutual
def VR [Val] (σ : Sg) : V → Value → Prop
  | .bool b, v => v = .bool b
  | .int k n, v => v = .int k n
  | .str l, v => ∃ s : ByteArray, v = .string s ∧ nats s = l
  | .ptr b o, v => ∃ cb co ce, σ b = some (cb, co, ce) ∧ v = .pointer (some ⟨cb, co + o, none⟩)
  | .nil, v => v = .pointer none
  | .sl b o len cap esz ex, v => ∃ a cap', v = .slice (some a) len cap' ∧ len ≤ cap ∧ cap ≤ cap' ∧ (ex = true → cap' = cap) ∧
      ((len = 0 ∧ cap' = 0) ∨ ∃ cb co ce, σ b = some (cb, co, ce) ∧ a = ⟨cb, co + o, none⟩ ∧ co + o + cap' * esz ≤ ce)
  | .nilsl, v => v = .slice none 0 0
  | .mp b, v => ∃ cb co ce, σ b = some (cb, co, ce) ∧ v = .map (some cb)
  | .nilmp, v => v = .map none
  | .fn f cs, v => ∃ arr, v = .func (.func f) #[] arr ∧ VRs σ cs arr.toList
  | .nilfn, v => v = .nilFunc
  | .agg cs, v => ∃ arr, v = .agg arr ∧ VRs σ cs arr.toList
  | .tup cs, v => ∃ arr, v = .tuple arr ∧ VRs σ cs arr.toList
  | .ifc t x, v => ∃ y, v = .iface t y ∧ VR σ x y
  | .nilifc, v => v = .nilIface
  | .sint k i, v => v = .int k (Val.num i)
  | .sstr i, v => v = .string (Val.str i)
def VRs [Val] (σ : Sg) : List V → List Value → Prop
  | [], l => l = []
  | x :: xs, l => ∃ y ys, l = y :: ys ∧ VR σ x y ∧ VRs σ xs ys
end

def Ext (σ σ' : Sg) : Prop := ∀ b x, σ b = some x → σ' b = some x
theorem Ext.refl (σ : Sg) : Ext σ σ := fun _ _ h => h
theorem Ext.trans {a b c : Sg} (h : Ext a b) (h' : Ext b c) : Ext a c := fun x y hh => h' x y (h x y hh)

mutual
theorem VR.mono [Val] {σ σ' : Sg} (h : Ext σ σ') : ∀ (v : V) (x : Value), VR σ v x → VR σ' v x
  | .bool _, _, hv => by simpa [VR] using hv
  | .int _ _, _, hv => by simpa [VR] using hv
  | .str _, _, hv => by simpa [VR] using hv
  | .ptr _ _, _, hv => by
    simp only [VR] at hv ⊢
    obtain ⟨cb, co, ce, h1, h2⟩ := hv
    exact ⟨cb, co, ce, h _ _ h1, h2⟩
  | .nil, _, hv => by simpa [VR] using hv
  | .sl .., _, hv => by
    simp only [VR] at hv ⊢
    obtain ⟨a, cap', h1, h2, h3, h4, h5⟩ := hv
    refine ⟨a, cap', h1, h2, h3, h4, h5.imp id ?_⟩
    rintro ⟨cb, co, ce, h6, h7⟩
    exact ⟨cb, co, ce, h _ _ h6, h7⟩
  | .nilsl, _, hv => by simpa [VR] using hv
  | .mp _, _, hv => by
    simp only [VR] at hv ⊢
    obtain ⟨cb, co, ce, h1, h2⟩ := hv
    exact ⟨cb, co, ce, h _ _ h1, h2⟩
  | .nilmp, _, hv => by simpa [VR] using hv
  | .fn _ cs, _, hv => by
    simp only [VR] at hv ⊢
    obtain ⟨arr, h1, h2⟩ := hv
    exact ⟨arr, h1, VRs.mono h cs _ h2⟩
  | .nilfn, _, hv => by simpa [VR] using hv
  | .agg cs, _, hv => by
    simp only [VR] at hv ⊢
    obtain ⟨arr, h1, h2⟩ := hv
    exact ⟨arr, h1, VRs.mono h cs _ h2⟩
  | .tup cs, _, hv => by
    simp only [VR] at hv ⊢
    obtain ⟨arr, h1, h2⟩ := hv
    exact ⟨arr, h1, VRs.mono h cs _ h2⟩
  | .ifc _ x, _, hv => by
    simp only [VR] at hv ⊢
    obtain ⟨y, h1, h2⟩ := hv
    exact ⟨y, h1, VR.mono h x _ h2⟩
  | .nilifc, _, hv => by simpa [VR] using hv
  | .sint .., _, hv => by simpa [VR] using hv
  | .sstr _, _, hv => by simpa [VR] using hv
theorem VRs.mono [Val] {σ σ' : Sg} (h : Ext σ σ') : ∀ (vs : List V) (xs : List Value), VRs σ vs xs → VRs σ' vs xs
  | [], _, hv => by simpa [VRs] using hv
  | v :: vs, _, hv => by
    simp only [VRs] at hv ⊢
    obtain ⟨y, ys, h1, h2, h3⟩ := hv
    exact ⟨y, ys, h1, VR.mono h v y h2, VRs.mono h vs ys h3⟩
end

section
variable {σ : Sg}
theorem VRs.length [Val] : ∀ {vs : List V} {xs : List Value}, VRs σ vs xs → vs.length = xs.length
  | [], _, h => by simp only [VRs] at h; simp [h]
  | v :: vs, _, h => by
    simp only [VRs] at h
    obtain ⟨y, ys, rfl, _, h3⟩ := h
    simp [VRs.length h3]
theorem VRs.get [Val] : ∀ {vs : List V} {xs : List Value}, VRs σ vs xs → ∀ {i : Nat} {v : V}, vs[i]? = some v → ∃ x, xs[i]? = some x ∧ VR σ v x
  | [], _, _, i, v, hi => by simp at hi
  | v :: vs, _, h, i, u, hi => by
    simp only [VRs] at h
    obtain ⟨y, ys, rfl, h2, h3⟩ := h
    cases i with
    | zero => simp at hi; subst hi; exact ⟨y, by simp, h2⟩
    | succ i => simp at hi; simpa using VRs.get h3 hi
theorem VRs.of_get [Val] : ∀ {vs : List V} {xs : List Value}, vs.length = xs.length → (∀ (i : Nat) (v : V), vs[i]? = some v → ∃ x, xs[i]? = some x ∧ VR σ v x) → VRs σ vs xs
  | [], [], _, _ => by simp [VRs]
  | [], _ :: _, h, _ => by simp at h
  | _ :: _, [], h, _ => by simp at h
  | v :: vs, x :: xs, h, hg => by
    simp only [VRs]
    refine ⟨x, xs, rfl, ?_, VRs.of_get (by simpa using h) fun i u hu => ?_⟩
    · obtain ⟨y, h1, h2⟩ := hg 0 v (by simp)
      simp at h1; subst h1; exact h2
    · obtain ⟨y, h1, h2⟩ := hg (i + 1) u (by simpa using hu)
      exact ⟨y, by simpa using h1, h2⟩
theorem VRs.append [Val] {a b : List V} {x y : List Value} (h : VRs σ a x) (h' : VRs σ b y) : VRs σ (a ++ b) (x ++ y) := by
  induction a generalizing x with
  | nil => simp only [VRs] at h; subst h; simpa using h'
  | cons v a ih =>
    simp only [VRs] at h
    obtain ⟨u, us, rfl, h2, h3⟩ := h
    simp only [List.cons_append, VRs]
    exact ⟨u, us ++ y, rfl, h2, ih h3⟩
theorem VRs.cons [Val] {v : V} {vs : List V} {x : Value} {xs : List Value} (h : VR σ v x) (h' : VRs σ vs xs) : VRs σ (v :: vs) (x :: xs) := by
  simp only [VRs]; exact ⟨x, xs, rfl, h, h'⟩
theorem VRs.nil [Val] : VRs σ [] [] := by simp [VRs]
end

theorem VR.oneCell [Val] {σ : Sg} {v : V} {x : Value} (h : VR σ v x) (hs : v.scalar = true) : x.oneCell' = true := by
  cases v <;> simp [V.scalar] at hs <;> simp only [VR] at h
  case str => obtain ⟨s, rfl, _⟩ := h; rfl
  case ptr => obtain ⟨_, _, _, _, rfl⟩ := h; rfl
  case sl => obtain ⟨_, _, rfl, _⟩ := h; rfl
  case mp => obtain ⟨_, _, _, _, rfl⟩ := h; rfl
  case fn => obtain ⟨_, rfl, _⟩ := h; rfl
  case ifc => obtain ⟨_, rfl, _⟩ := h; rfl
  all_goals (subst h; rfl)
theorem VR.cells [Val] {σ : Sg} {v : V} {x : Value} (h : VR σ v x) : VRs σ v.cells x.cells.toList := by
  cases v
  case agg cs =>
    simp only [VR] at h
    obtain ⟨arr, rfl, h2⟩ := h
    simpa [V.cells, Value.cells] using h2
  all_goals
    refine VRs.of_get (by first | (simp [V.cells]; simp only [VR] at h; first | (obtain ⟨_, _, rfl, _⟩ := h; simp [Value.cells]; done) | (obtain ⟨_, _, _, _, rfl⟩ := h; simp [Value.cells]; done) | (obtain ⟨_, rfl, _⟩ := h; simp [Value.cells]; done) | (subst h; simp [Value.cells]))) ?_
    intro i u hu
    cases i with
    | zero =>
      simp [V.cells] at hu; subst hu
      refine ⟨x, ?_, h⟩
      simp only [VR] at h
      first | (obtain ⟨_, _, rfl, _⟩ := h; simp [Value.cells]; done) | (obtain ⟨_, _, _, _, rfl⟩ := h; simp [Value.cells]; done) | (obtain ⟨_, rfl, _⟩ := h; simp [Value.cells]; done) | (subst h; simp [Value.cells])
    | succ i => simp [V.cells] at hu

-- constants
theorem toV0_ok [Val] {σ : Sg} {x : Value} {v : V} (h : toV0 x = some v) : VR σ v x := by
  unfold toV0 at h
  split at h <;> simp at h <;> subst h <;> simp [VR]
theorem toVs_ok [Val] {σ : Sg} : ∀ {xs : List Value} {vs : List V}, toVs xs = some vs → VRs σ vs xs
  | [], vs, h => by simp [toVs] at h; subst h; simp [VRs]
  | x :: xs, vs, h => by
    simp only [toVs] at h
    cases h0 : toV0 x with
    | none => simp [h0] at h
    | some v =>
      cases h1 : toVs xs with
      | none => simp [h0, h1] at h
      | some us =>
        simp only [h0, h1, Option.some.injEq] at h
        subst h
        exact VRs.cons (toV0_ok h0) (toVs_ok h1)
theorem toV_ok [Val] {σ : Sg} {x : Value} {v : V} (h : toV x = some v) : VR σ v x := by
  unfold toV at h
  split at h
  · rename_i cs
    cases h1 : toVs cs.toList with
    | none => simp [h1] at h
    | some us => simp only [h1, Option.some.injEq] at h; subst h; simp only [VR]; exact ⟨cs, rfl, toVs_ok h1⟩
  · rename_i cs
    cases h1 : toVs cs.toList with
    | none => simp [h1] at h
    | some us => simp only [h1, Option.some.injEq] at h; subst h; simp only [VR]; exact ⟨cs, rfl, toVs_ok h1⟩
  · exact toV0_ok h

-- the heap
def EntR [Val] (σ : Sg) : List (V × V) → List MapEntry → Prop
  | [], l => l = []
  | (k, v) :: es, l => ∃ e l', l = e :: l' ∧ VR σ k e.key ∧ VR σ v e.val ∧ EntR σ es l'
theorem EntR.mono [Val] {σ σ' : Sg} (h : Ext σ σ') : ∀ {es : List (V × V)} {l : List MapEntry}, EntR σ es l → EntR σ' es l
  | [], _, he => by simpa [EntR] using he
  | (k, v) :: es, _, he => by
    simp only [EntR] at he ⊢
    obtain ⟨e, l', h1, h2, h3, h4⟩ := he
    exact ⟨e, l', h1, VR.mono h _ _ h2, VR.mono h _ _ h3, EntR.mono h h4⟩

def OR [Val] (σ : Sg) (w : World) (b : Nat) : O → Prop
  | .cells rw sb cs => ∃ cb co ce c el fr, σ b = some (cb, co, ce) ∧ w.heap[cb]? = some (.cells c el fr) ∧ co + cs.length ≤ ce ∧ ce ≤ c.size ∧
      (∀ i x, cs[i]? = some x → ∃ v, c[co + i]? = some v ∧ VR σ x v) ∧
      (rw = true → (fr = (0, 0) ∨ fr = (c.size, c.size + 1)) ∧ (sb.isStr = false → fr = (0, 0)) ∧ ∀ t wh, sb = .el t wh → el = t ∧ (wh = true → co = 0 ∧ c.size = cs.length))
  | .map es => ∃ cb ces clock, σ b = some (cb, 0, 1) ∧ w.heap[cb]? = some (.map ces clock) ∧ EntR σ es ces.toList
theorem Tg.grown_str (t : Tg) (e : Nat) : (t.grown e).isStr = t.isStr := by
  cases t with
  | no => rfl
  | str => rfl
  | el t w => simp only [Tg.grown]; cases Nat.beq t e <;> rfl
theorem Tg.grown_el {t : Tg} {e u : Nat} {wh : Bool} (h : t.grown e = .el u wh) : u = e ∧ wh = false ∧ ∃ w', t = .el u w' := by
  cases t with
  | no => cases h
  | str => cases h
  | el t w =>
    simp only [Tg.grown] at h
    cases hb : Nat.beq t e with
    | false => simp [hb] at h
    | true =>
      simp only [hb, cond_true, Tg.el.injEq] at h
      have := Nat.eq_of_beq_eq_true hb
      obtain ⟨rfl, rfl⟩ := h
      exact ⟨rfl, rfl, w, by rw [this]⟩
theorem Tg.part_str (t : Tg) : t.part.isStr = t.isStr := by cases t <;> rfl
theorem Tg.part_el {t : Tg} {u : Nat} {wh : Bool} (h : t.part = .el u wh) : wh = false ∧ ∃ w', t = .el u w' := by
  cases t with
  | no => cases h
  | str => cases h
  | el t w => simp only [Tg.part, Tg.el.injEq] at h; obtain ⟨rfl, rfl⟩ := h; exact ⟨rfl, w, rfl⟩
def O.rw : O → Bool
  | .cells rw _ _ => rw
  | .map _ => true

/-- Which of the model's blocks stay as they are; in which ones what is only read may lie. -/
abbrev Prt := (Nat → Prop) × (Nat → Prop)
structure Rel [Val] (ng : Nat) (pr : Prt) (w0 : World) (σ : Sg) (s : S) (w : World) : Prop where
  obj : ∀ b o, s.h.get b = some o → OR σ w b o
  disj : ∀ b b' o o' cb co ce co' ce', b ≠ b' → s.h.get b = some o → s.h.get b' = some o' → o.rw = true →
    σ b = some (cb, co, ce) → σ b' = some (cb, co', ce') → False
  fresh : ∀ b, s.next ≤ b → σ b = none
  prot : ∀ cb, pr.1 cb → cb < w.heap.size ∧ w.heap[cb]? = w0.heap[cb]?
  away : ∀ b o cb co ce, s.h.get b = some o → o.rw = true → σ b = some (cb, co, ce) → ¬ pr.1 cb
  glob : ng ≤ s.next ∧ ∀ g, g < ng → ∃ ce, σ g = some (g, 0, ce)
  same : w.os = w0.os ∧ w.output = w0.output ∧ w.tape = w0.tape ∧ w0.heap.size ≤ w.heap.size
  ro : ∀ b o cb co ce, s.h.get b = some o → o.rw = false → σ b = some (cb, co, ce) → pr.2 cb
  rolt : ∀ cb, pr.2 cb → cb < w0.heap.size

end Go.Ai
