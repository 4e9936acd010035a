/- Regions that draw their order: the canonical run. -/
import Derived.Test.YtdhljfjmalphiaaDoorAiDrawA
namespace Go.Ai
section
variable {P : Program} {c : Ctx}

def Rec.val (x : Rec) : V :=
  match x.kd with
  | .skip => .undef
  | .free v => v
  | .pure _ v => v
  | .alloc _ f => f x.s.next
  | .eff v => v
  | .pend _ _ _ v => v
def Rec.isEff (x : Rec) : Prop := ∃ v, x.kd = .eff v

/-- What a record tells of its operation. -/
def Link (c : Ctx) (call : CallF) (n : Nat) (ops : Array Oper) (x : Rec) (curN : S) : Prop :=
  ops.toList[x.i]? = some x.o ∧ putT n x.tm x.o.dst x.val = some x.tmN ∧ x.s.next ≤ x.sN.next ∧
  match x.kd with
  | .skip => wantedV ops x.tm x.o = false ∧ x.sN = x.s ∧ curN = x.cur
  | .free v => wantedV ops x.tm x.o = true ∧ clsOf c x.o.op = .pure ∧ memFree c x.o.op = true ∧ pureV c x.o.op (ev c.ng x.tm) x.s = some v ∧ x.sN = x.s ∧ curN = x.cur
  | .pure r v => wantedV ops x.tm x.o = true ∧ clsOf c x.o.op = .pure ∧ memFree c x.o.op = false ∧ r = pureV c x.o.op (ev c.ng x.tm) ∧ r x.cur = some v ∧ x.sN = x.s ∧ curN = x.cur
  | .alloc ob f => wantedV ops x.tm x.o = true ∧ clsOf c x.o.op = .alloc ∧ allocV c x.o.op (ev c.ng x.tm) = some (ob, f) ∧ x.sN = x.s.new ob ∧ curN = x.cur
  | .eff v => wantedV ops x.tm x.o = true ∧ clsOf c x.o.op = .eff ∧ effV c call x.o.op (ev c.ng x.tm) x.s = some (v, x.sN) ∧ curN = x.sN
  | .pend b ob r v => wantedV ops x.tm x.o = true ∧ clsOf c x.o.op = .pure ∧ memFree c x.o.op = false ∧ r = pureV c x.o.op (ev c.ng x.tm) ∧ pendV c x.o.op (ev c.ng x.tm) x.cur x.s = some (b, ob, v) ∧ x.sN = x.s ∧ curN = x.cur

def Chain (c : Ctx) (call : CallF) (n : Nat) (ops : Array Oper) : List Rec → T V → S → S → T V → S → S → Prop
  | [], tm, s, cur, tm', s', cur' => tm' = tm ∧ s' = s ∧ cur' = cur
  | x :: l, tm, s, cur, tm', s', cur' => x.tm = tm ∧ x.s = s ∧ x.cur = cur ∧ ∃ curN, Link c call n ops x curN ∧ Chain c call n ops l x.tmN x.sN curN tm' s' cur'

theorem recs_chain {call : CallF} {n : Nat} {ops : Array Oper} : ∀ {ord : List Nat} {tm : T V} {s cur : S} {recs : List Rec} {tm' : T V} {s' : S}, recsV c call n ops ord tm s cur = some (recs, tm', s') →
    (∃ cur', Chain c call n ops recs tm s cur tm' s' cur') ∧ recs.map (·.i) = ord
  | [], tm, s, cur, recs, tm', s', h => by
    simp only [recsV, Option.some.injEq, Prod.mk.injEq] at h
    obtain ⟨rfl, rfl, rfl⟩ := h
    exact ⟨⟨cur, rfl, rfl, rfl⟩, rfl⟩
  | i :: l, tm, s, cur, recs, tm', s', h => by
    simp only [recsV] at h
    split at h
    · cases h
    rename_i o ho
    rw [nth_eq] at ho
    split at h
    · rename_i hw
      split at h
      case h_2 => cases h
      rename_i tm1 hp
      split at h
      case h_2 => cases h
      rename_i r tm2 s2 hr
      cases h
      obtain ⟨⟨cur', h1⟩, h2⟩ := recs_chain hr
      exact ⟨⟨cur', rfl, rfl, rfl, cur, ⟨ho, hp, Nat.le_refl _, hw, rfl, rfl⟩, h1⟩, by simp [h2]⟩
    · rename_i hw
      split at h
      · rename_i hcl
        split at h
        · rename_i hmf
          split at h
          case h_2 => cases h
          rename_i v hv
          split at h
          case h_2 => cases h
          rename_i tm1 hp
          split at h
          case h_2 => cases h
          rename_i r tm2 s2 hr
          cases h
          obtain ⟨⟨cur', h1⟩, h2⟩ := recs_chain hr
          exact ⟨⟨cur', rfl, rfl, rfl, cur, ⟨ho, hp, Nat.le_refl _, hw, hcl, hmf, hv, rfl, rfl⟩, h1⟩, by simp [h2]⟩
        · rename_i hmf
          split at h
          · rename_i v hv
            split at h
            case h_2 => cases h
            rename_i tm1 hp
            split at h
            case h_2 => cases h
            rename_i r tm2 s2 hr
            cases h
            obtain ⟨⟨cur', h1⟩, h2⟩ := recs_chain hr
            exact ⟨⟨cur', rfl, rfl, rfl, cur, ⟨ho, hp, Nat.le_refl _, hw, hcl, hmf, rfl, hv, rfl, rfl⟩, h1⟩, by simp [h2]⟩
          · split at h
            case h_2 => cases h
            rename_i b ob v hv
            split at h
            case h_2 => cases h
            rename_i tm1 hp
            split at h
            case h_2 => cases h
            rename_i r tm2 s2 hr
            cases h
            obtain ⟨⟨cur', h1⟩, h2⟩ := recs_chain hr
            exact ⟨⟨cur', rfl, rfl, rfl, cur, ⟨ho, hp, Nat.le_refl _, hw, hcl, hmf, rfl, hv, rfl, rfl⟩, h1⟩, by simp [h2]⟩
      · rename_i hcl
        split at h
        case h_2 => cases h
        rename_i ob f hv
        split at h
        case h_2 => cases h
        rename_i tm1 hp
        split at h
        case h_2 => cases h
        rename_i r tm2 s2 hr
        cases h
        obtain ⟨⟨cur', h1⟩, h2⟩ := recs_chain hr
        exact ⟨⟨cur', rfl, rfl, rfl, cur, ⟨ho, hp, Nat.le_succ _, hw, hcl, hv, rfl, rfl⟩, h1⟩, by simp [h2]⟩
      · rename_i hcl
        split at h
        case h_2 => cases h
        rename_i v s1 hv
        split at h
        case h_2 => cases h
        rename_i hn
        split at h
        case h_2 => cases h
        rename_i tm1 hp
        split at h
        case h_2 => cases h
        rename_i r tm2 s2 hr
        cases h
        obtain ⟨⟨cur', h1⟩, h2⟩ := recs_chain hr
        exact ⟨⟨cur', rfl, rfl, rfl, s1, ⟨ho, hp, Nat.le_of_ble_eq_true hn, hw, hcl, hv, rfl⟩, h1⟩, by simp [h2]⟩

theorem chain_append {call : CallF} {n : Nat} {ops : Array Oper} : ∀ {A B : List Rec} {tm : T V} {s cur : S} {tm' : T V} {s' cur' : S}, Chain c call n ops (A ++ B) tm s cur tm' s' cur' →
    ∃ tm1 s1 cur1, Chain c call n ops A tm s cur tm1 s1 cur1 ∧ Chain c call n ops B tm1 s1 cur1 tm' s' cur'
  | [], B, tm, s, cur, tm', s', cur', h => ⟨tm, s, cur, ⟨rfl, rfl, rfl⟩, h⟩
  | x :: A, B, tm, s, cur, tm', s', cur', h => by
    obtain ⟨h1, h2, h3, curN, h4, h5⟩ := h
    obtain ⟨tm1, s1, cur1, h6, h7⟩ := chain_append h5
    exact ⟨tm1, s1, cur1, ⟨h1, h2, h3, curN, h4, h6⟩, h7⟩
theorem chain_next {call : CallF} {n : Nat} {ops : Array Oper} : ∀ {A : List Rec} {tm : T V} {s cur : S} {tm' : T V} {s' cur' : S}, Chain c call n ops A tm s cur tm' s' cur' →
    s.next ≤ s'.next ∧ ∀ x ∈ A, s.next ≤ x.s.next ∧ x.sN.next ≤ s'.next
  | [], tm, s, cur, tm', s', cur', h => by
    obtain ⟨rfl, rfl, rfl⟩ := h
    exact ⟨Nat.le_refl _, fun x hx => by cases hx⟩
  | x :: A, tm, s, cur, tm', s', cur', h => by
    obtain ⟨h1, h2, h3, curN, h4, h5⟩ := h
    obtain ⟨h6, h7⟩ := chain_next h5
    have h8 := h4.2.2.1
    subst h2
    refine ⟨Nat.le_trans h8 h6, fun y hy => ?_⟩
    cases hy with
    | head => exact ⟨Nat.le_refl _, h6⟩
    | tail _ hy => exact ⟨Nat.le_trans h8 (h7 y hy).1, (h7 y hy).2⟩
theorem chain_link {call : CallF} {n : Nat} {ops : Array Oper} : ∀ {A : List Rec} {tm : T V} {s cur : S} {tm' : T V} {s' cur' : S}, Chain c call n ops A tm s cur tm' s' cur' → ∀ x ∈ A, ∃ curN, Link c call n ops x curN
  | [], _, _, _, _, _, _, _, x, hx => by cases hx
  | y :: A, tm, s, cur, tm', s', cur', h, x, hx => by
    obtain ⟨h1, h2, h3, curN, h4, h5⟩ := h
    cases hx with
    | head => exact ⟨curN, h4⟩
    | tail _ hx => exact chain_link h5 x hx
/-- Where no effect is, what reading looks at stays. -/
theorem chain_cur {call : CallF} {n : Nat} {ops : Array Oper} : ∀ {A : List Rec} {tm : T V} {s cur : S} {tm' : T V} {s' cur' : S}, Chain c call n ops A tm s cur tm' s' cur' → (∀ x ∈ A, ¬ x.isEff) → cur' = cur ∧ ∀ x ∈ A, x.cur = cur
  | [], tm, s, cur, tm', s', cur', h, _ => by
    obtain ⟨rfl, rfl, rfl⟩ := h
    exact ⟨rfl, fun x hx => by cases hx⟩
  | x :: A, tm, s, cur, tm', s', cur', h, hn => by
    obtain ⟨h1, h2, h3, curN, h4, h5⟩ := h
    have hcur : curN = x.cur := by
      obtain ⟨_, _, _, h⟩ := h4
      have := hn x (by simp)
      cases hk : x.kd <;> simp only [hk] at h
      · exact h.2.2
      · exact h.2.2.2.2.2
      · exact h.2.2.2.2.2.2
      · exact h.2.2.2.2
      · exact (this ⟨_, hk⟩).elim
      · exact h.2.2.2.2.2.2
    obtain ⟨h6, h7⟩ := chain_cur h5 (fun y hy => hn y (by simp [hy]))
    subst h3
    refine ⟨h6.trans hcur, fun y hy => ?_⟩
    cases hy with
    | head => rfl
    | tail _ hy => exact (h7 y hy).trans hcur

/-- Where no effect is, a block is an old one, or was made there. -/
theorem chain_made {call : CallF} {n : Nat} {ops : Array Oper} : ∀ {A : List Rec} {tm : T V} {s cur : S} {tm' : T V} {s' cur' : S}, Chain c call n ops A tm s cur tm' s' cur' → (∀ x ∈ A, ¬ x.isEff) →
    ∀ b ob, s'.h.get b = some ob → s.h.get b = some ob ∨ ∃ y ∈ A, ∃ f, y.kd = .alloc ob f ∧ y.s.next = b
  | [], tm, s, cur, tm', s', cur', h, _, b, ob, hb => by
    obtain ⟨rfl, rfl, rfl⟩ := h
    exact .inl hb
  | x :: A, tm, s, cur, tm', s', cur', h, hn, b, ob, hb => by
    obtain ⟨h1, h2, h3, curN, h4, h5⟩ := h
    subst h2
    rcases chain_made h5 (fun y hy => hn y (by simp [hy])) b ob hb with h6 | ⟨y, hy, f, h6⟩
    · have keep : x.sN = x.s → x.s.h.get b = some ob ∨ ∃ y ∈ x :: A, ∃ f, y.kd = .alloc ob f ∧ y.s.next = b := fun e => .inl (by rw [← e]; exact h6)
      obtain ⟨_, _, _, l⟩ := h4
      cases hk : x.kd <;> simp only [hk] at l
      case skip => exact keep l.2.1
      case free => exact keep l.2.2.2.2.1
      case pure => exact keep l.2.2.2.2.2.1
      case eff v => exact (hn x (by simp) ⟨_, hk⟩).elim
      case pend => exact keep l.2.2.2.2.2.1
      case alloc ob' f =>
        rw [l.2.2.2.1] at h6
        simp only [S.new, T.get_set] at h6
        by_cases e : b = x.s.next
        · rw [if_pos e] at h6
          cases h6
          exact .inr ⟨x, by simp, f, hk, e.symm⟩
        · rw [if_neg e] at h6
          exact .inl h6
    · exact .inr ⟨y, by simp [hy], f, h6⟩

/-- What a temporary holds when the operations of a set are done, and which numbers may stand in it. -/
def valD (D : Nat → Bool) (t : Nat) : List Rec → V × Nat → V × Nat
  | [], v => v
  | x :: l, v => valD D t l (if D x.i = true ∧ x.o.dst = some t then (x.val, x.sN.next) else v)
theorem valD_append {D : Nat → Bool} {t : Nat} : ∀ (A B : List Rec) (v : V × Nat), valD D t (A ++ B) v = valD D t B (valD D t A v)
  | [], _, _ => rfl
  | x :: A, B, v => by simp only [List.cons_append, valD]; exact valD_append A B _
theorem valD_congr {D D' : Nat → Bool} {t : Nat} : ∀ (A : List Rec) (v : V × Nat), (∀ x ∈ A, x.o.dst = some t → D x.i = D' x.i) → valD D t A v = valD D' t A v
  | [], _, _ => rfl
  | x :: A, v, h => by
    simp only [valD]
    rw [valD_congr A _ fun y hy => h y (by simp [hy])]
    congr 1
    by_cases e : x.o.dst = some t
    · rw [h x (by simp) e]
    · simp [e]
theorem valD_none {D : Nat → Bool} {t : Nat} : ∀ (A : List Rec) (v : V × Nat), (∀ x ∈ A, x.o.dst = some t → D x.i = false) → valD D t A v = v
  | [], _, _ => rfl
  | x :: A, v, h => by
    simp only [valD]
    rw [if_neg]
    · exact valD_none A v fun y hy => h y (by simp [hy])
    · rintro ⟨h1, h2⟩
      rw [h x (by simp) h2] at h1; cases h1
theorem valD_bound {D : Nat → Bool} {t N : Nat} : ∀ (A : List Rec) (v : V × Nat), v.2 ≤ N → (∀ x ∈ A, x.sN.next ≤ N) → (valD D t A v).2 ≤ N
  | [], v, h, _ => h
  | x :: A, v, h, ha => by
    simp only [valD]
    refine valD_bound A _ ?_ fun y hy => ha y (by simp [hy])
    split
    · exact ha x (by simp)
    · exact h
theorem chain_val {call : CallF} {n : Nat} {ops : Array Oper} {t b : Nat} : ∀ {A : List Rec} {tm : T V} {s cur : S} {tm' : T V} {s' cur' : S}, Chain c call n ops A tm s cur tm' s' cur' →
    (tm'.get t).getD .undef = (valD (fun _ => true) t A ((tm.get t).getD .undef, b)).1
  | [], tm, s, cur, tm', s', cur', h => by
    obtain ⟨rfl, rfl, rfl⟩ := h
    rfl
  | x :: A, tm, s, cur, tm', s', cur', h => by
    obtain ⟨h1, h2, h3, curN, h4, h5⟩ := h
    have hp := h4.2.1
    rw [h1] at hp
    simp only [valD]
    cases hd : x.o.dst with
    | none =>
      rw [hd] at hp
      simp only [putT, Option.some.injEq] at hp
      rw [chain_val (b := b) h5, ← hp]
      simp
    | some d =>
      rw [hd] at hp
      simp only [putT] at hp
      cases hlt : Nat.blt d n with
      | false => simp [hlt] at hp
      | true =>
        simp only [hlt, cond_true, Option.some.injEq] at hp
        by_cases e : t = d
        · subst e
          rw [if_pos (by simp), chain_val (b := x.sN.next) h5, ← hp, T.get_set, if_pos rfl]
          rfl
        · rw [if_neg (by simp; exact fun h => e h.symm), chain_val (b := b) h5, ← hp, T.get_set, if_neg e]

theorem allIn_ok {seen : Nat} : ∀ {l : List Nat}, allIn seen l = true → ∀ e ∈ l, bit seen e = true
  | [], _, e, he => by cases he
  | a :: l, h, e, he => by
    simp only [allIn, Bool.and_eq_true] at h
    cases he with
    | head => exact h.1
    | tail _ he => exact allIn_ok h.2 e he
theorem aheadOk_ok {ops : List Oper} {ri : RI} {m j : Nat} {y : Oper} : ∀ {l : List Nat}, aheadOk c ops ri m j y l = true → ∀ i ∈ l, ∃ x, ops[i]? = some x ∧ (bit m i = true ∨ pairOk c ops ri i x j y = true)
  | [], _, i, hi => by cases hi
  | a :: l, h, i, hi => by
    simp only [aheadOk, Bool.and_eq_true] at h
    obtain ⟨h1, h2⟩ := h
    cases hi with
    | head =>
      rw [nth_eq] at h1
      cases hx : ops[a]? with
      | none => simp [hx] at h1
      | some x =>
        simp only [hx, Bool.or_eq_true] at h1
        exact ⟨x, rfl, h1⟩
    | tail _ hi => exact aheadOk_ok h2 i hi
/-- What the look at a region's canonical order tells. -/
theorem ord_facts {ops : List Oper} {ms : List Nat} {ri : RI} : ∀ (ord dn : List Nat) (seen : Nat), ordOk c ops ms ri ord dn seen = true → (∀ e, bit seen e = true ↔ e ∈ dn) →
    (∀ i, i < ops.length → i ∈ dn ∨ i ∈ ord) ∧ ∀ (A : List Nat) (j : Nat) (B : List Nat), ord = A ++ j :: B → ∃ y m, ops[j]? = some y ∧ ms[j]? = some m ∧ j ∉ dn ∧ j ∉ A ∧ (∀ e ∈ edgesOf y.after.toList, e ∈ dn ∨ e ∈ A) ∧
      ∀ i, (i ∈ dn ∨ i ∈ A) → ∃ x, ops[i]? = some x ∧ (bit m i = true ∨ pairOk c ops ri i x j y = true)
  | [], dn, seen, h, hs => by
    simp only [ordOk] at h
    refine ⟨fun i hi => .inl ((hs i).1 (allIn_ok h i (by simpa using hi))), fun A j B e => ?_⟩
    simp at e
  | j0 :: l, dn, seen, h, hs => by
    simp only [ordOk] at h
    split at h
    case h_2 => cases h
    rename_i y m hy hm
    rw [nth_eq] at hy hm
    simp only [Bool.and_eq_true, Bool.not_eq_true'] at h
    obtain ⟨⟨⟨h1, h2⟩, h3⟩, h4⟩ := h
    have hs' : ∀ e, bit (seen ||| (1 <<< j0)) e = true ↔ e ∈ j0 :: dn := by
      intro e
      rw [bit_eq, Nat.testBit_or, Nat.one_shiftLeft, Nat.testBit_two_pow, Bool.or_eq_true, ← bit_eq, hs e, List.mem_cons]
      simp only [decide_eq_true_eq]
      exact ⟨fun h => h.elim .inr fun h => .inl h.symm, fun h => h.elim (fun h => .inr h.symm) .inl⟩
    obtain ⟨g1, g2⟩ := ord_facts l (j0 :: dn) _ h4 hs'
    refine ⟨fun i hi => ?_, fun A j B e => ?_⟩
    · rcases g1 i hi with h | h
      · cases h with
        | head => exact .inr (by simp)
        | tail _ h => exact .inl h
      · exact .inr (by simp [h])
    · cases A with
      | nil =>
        simp only [List.nil_append, List.cons.injEq] at e
        obtain ⟨rfl, rfl⟩ := e
        refine ⟨y, m, hy, hm, fun hj => ?_, by simp, fun e he => .inl ((hs e).1 (allIn_ok h2 e he)), fun i hi => ?_⟩
        · rw [(hs j0).2 hj] at h1; cases h1
        · rcases hi with hi | hi
          · exact aheadOk_ok h3 i hi
          · cases hi
      | cons a A =>
        simp only [List.cons_append, List.cons.injEq] at e
        obtain ⟨rfl, rfl⟩ := e
        obtain ⟨y', m', q1, q2, q3, q4, q5, q6⟩ := g2 A j B rfl
        simp only [List.mem_cons, not_or] at q3
        refine ⟨y', m', q1, q2, q3.2, by simp [q3.1, q4], fun e he => ?_, fun i hi => ?_⟩
        · rcases q5 e he with h | h
          · cases h with
            | head => exact .inr (by simp)
            | tail _ h => exact .inl h
          · exact .inr (by simp [h])
        · refine q6 i ?_
          rcases hi with h | h
          · exact .inl (by simp [h])
          · cases h with
            | head => exact .inl (by simp)
            | tail _ h => exact .inr h
end
end Go.Ai
