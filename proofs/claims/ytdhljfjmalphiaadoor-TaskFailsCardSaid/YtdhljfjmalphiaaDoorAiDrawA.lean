/- Regions that draw their order: what hangs on what. -/
import Derived.Test.YtdhljfjmalphiaaDoorAiEff5
namespace Go.Ai
section
variable {P : Program} {c : Ctx}

-- the evaluator looks at the operands alone
theorem evs_congr {ρ ρ' : Operand → Option V} : ∀ {xs : List Operand}, (∀ x ∈ xs, ρ x = ρ' x) → evs ρ xs = evs ρ' xs
  | [], _ => rfl
  | x :: xs, h => by
    have ih := evs_congr (ρ := ρ) (ρ' := ρ') (xs := xs) fun y hy => h y (List.mem_cons_of_mem _ hy)
    simp only [evs, h x (List.mem_cons_self ..), ih]
theorem partsV_congr {ρ ρ' : Operand → Option V} : ∀ {ps : List (Nat × Operand)}, (∀ p ∈ ps, ρ p.2 = ρ' p.2) → partsV ρ ps = partsV ρ' ps
  | [], _ => rfl
  | (i, x) :: ps, h => by
    have ih := partsV_congr (ρ := ρ) (ρ' := ρ') (ps := ps) fun y hy => h y (List.mem_cons_of_mem _ hy)
    simp only [partsV, h (i, x) (List.mem_cons_self ..), ih]
theorem optNat_congr {ρ ρ' : Operand → Option V} {d : Nat} {o : Option Operand} (h : ∀ x, o = some x → ρ x = ρ' x) : optNat ρ d o = optNat ρ' d o := by
  cases o with
  | none => rfl
  | some x => simp only [optNat, h x rfl]
theorem sliceV_congr {s : S} {ρ ρ' : Operand → Option V} {t : Nat} {x : V} {lo hi mx : Option Operand} (h1 : ∀ x, lo = some x → ρ x = ρ' x) (h2 : ∀ x, hi = some x → ρ x = ρ' x) (h3 : ∀ x, mx = some x → ρ x = ρ' x) :
    sliceV c s ρ t x lo hi mx = sliceV c s ρ' t x lo hi mx := by
  unfold sliceV
  simp only [optNat_congr h1, optNat_congr h2, optNat_congr h3]
theorem pureV0_congr {o : Op} {ρ ρ' : Operand → Option V} {s : S} (h : ∀ x ∈ o.operands.toList, ρ x = ρ' x) : pureV0 c o ρ s = pureV0 c o ρ' s := by
  cases o <;> simp only [Op.operands, Call.operands] at h <;> simp only [pureV0]
  case move x => exact h x (by simp)
  case assign x => exact h x (by simp)
  case pick a b d => rw [h a (by simp), h b (by simp), h d (by simp)]
  case build t ps => rw [partsV_congr (ρ' := ρ') fun p hp => h p.2 (by simp; exact ⟨p.1, by simpa using hp⟩)]
  case load t a => rw [h a (by simp)]
  case nilCheck x => rw [h x (by simp)]
  case binOp op t x y u => rw [h x (by simp), h y (by simp)]
  case unOp op t x => rw [h x (by simp)]
  case convert a b x => rw [h x (by simp)]
  case makeInterface t x => rw [h x (by simp)]
  case makeFunc fn first caps =>
    cases fn <;> simp only []
    rw [evs_congr (ρ' := ρ') fun x hx => h x (by simp at hx ⊢; exact .inr hx)]
  case slice t x lo hi mx =>
    rw [h x (by simp)]
    split
    · exact sliceV_congr (fun y hy => h y (by subst hy; simp)) (fun y hy => h y (by subst hy; simp)) (fun y hy => h y (by subst hy; simp))
    · rfl
  case fieldAddr t x f => rw [h x (by simp)]
  case field t x f => rw [h x (by simp)]
  case indexAddr t x i => rw [h x (by simp), h i (by simp)]
  case index t x i => rw [h x (by simp), h i (by simp)]
  case lookup t m k ok => rw [h m (by simp), h k (by simp)]
  case extract x i => rw [h x (by simp)]
  case call cl =>
    obtain ⟨callee, args, ats⟩ := cl
    have := evs_congr (ρ := ρ) (ρ' := ρ') (xs := args.toList) fun x hx => h x (by simp at hx ⊢; exact .inr hx)
    simp only [this]
theorem pureV_congr {o : Op} {ρ ρ' : Operand → Option V} {s : S} (h : ∀ x ∈ o.operands.toList, ρ x = ρ' x) : pureV c o ρ s = pureV c o ρ' s := by
  unfold pureV
  rw [pureV0_congr h, evs_congr h]
theorem allocV_congr {o : Op} {ρ ρ' : Operand → Option V} (h : ∀ x ∈ o.operands.toList, ρ x = ρ' x) : allocV c o ρ = allocV c o ρ' := by
  cases o <;> simp only [Op.operands, Call.operands] at h <;> simp only [allocV]
  case box t x => rw [h x (by simp)]
  case buildSlice t n ps => rw [partsV_congr (ρ' := ρ') fun p hp => h p.2 (by simp; exact ⟨p.1, by simpa using hp⟩)]
  case convert a b x => rw [h x (by simp)]
  case makeSlice t x y => rw [h x (by simp), h y (by simp)]
theorem effV_congr {call : CallF} {o : Op} {ρ ρ' : Operand → Option V} {s : S} (h : ∀ x ∈ o.operands.toList, ρ x = ρ' x) : effV c call o ρ s = effV c call o ρ' s := by
  cases o <;> simp only [Op.operands, Call.operands] at h <;> simp only [effV]
  case insert t m k v => rw [h m (by simp), h k (by simp), h v (by simp)]
  case store t a v => rw [h a (by simp), h v (by simp)]
  case convert a b x => rw [h x (by simp)]
  case mapUpdate t m k v => rw [h m (by simp), h k (by simp), h v (by simp)]
  case call cl =>
    obtain ⟨callee, args, ats⟩ := cl
    have hargs := evs_congr (ρ := ρ) (ρ' := ρ') (xs := args.toList) fun x hx => h x (by simp at hx ⊢; exact .inr hx)
    cases callee with
    | value f => simp only [hargs]; rw [h f (by simp)]
    | invoke r m => rfl
    | builtin b => cases b <;> simp only [hargs]

-- the next block's number plays no part in reading
theorem eqV_next {s : S} {N : Nat} : ∀ (d t : Nat) (x y : V), eqV c { s with next := N } d t x y = eqV c s d t x y := by
  intro d
  induction d with
  | zero => intros; rfl
  | succ d ih =>
    intro t x y
    have : eqV c { s with next := N } d = eqV c s d := by funext t x y; exact ih t x y
    simp only [eqV, this]
    rfl
theorem pureV_next {o : Op} {ρ : Operand → Option V} {s : S} {N : Nat} : pureV c o ρ { s with next := N } = pureV c o ρ s := by
  unfold pureV
  have : pureV0 c o ρ { s with next := N } = pureV0 c o ρ s := by cases o <;> rfl
  rw [this]

theorem eqV_leaf {s s' : S} {t : Nat} {i : TI} (ht : c.tt.get t = some i) (hk : (∃ k, i.k = .int k) ∨ i.k = .str) (d : Nat) (x y : V) : eqV c s (d + 1) t x y = eqV c s' (d + 1) t x y := by
  simp only [eqV, ht]
  rcases hk with ⟨k, hk⟩ | hk <;> rw [hk] <;> cases x <;> cases y <;> rfl
/-- What hangs on no memory is the same in every state. -/
theorem memFree0_ok {o : Op} {ρ : Operand → Option V} {s s' : S} (h : memFree c o = true) : pureV0 c o ρ s = pureV0 c o ρ s' := by
  cases o <;> simp only [memFree] at h <;> first | (cases h; done) | rfl | skip
  case binOp op t x y u =>
    cases ht : c.tt.get t with
    | none => simp [ht] at h
    | some i =>
      simp only [ht] at h
      have he : ∀ x y, eqV c s 8 t x y = eqV c s' 8 t x y := by
        intro x y
        split at h
        · rename_i k hk; exact eqV_leaf ht (.inl ⟨k, hk⟩) 7 x y
        · rename_i hk; exact eqV_leaf ht (.inr hk) 7 x y
        · cases h
      simp only [pureV0, binV, ht, he]
  case makeFunc fn a b => cases fn <;> rfl
  case convert src dst x =>
    simp only [pureV0, convV]
    split at h
    case h_2 => cases h
    rename_i i j hi hj
    split at h
    · rename_i hk hk'; rw [hk, hk']; cases ρ x with
      | none => rfl
      | some a => cases a <;> rfl
    · rename_i hk hk'; rw [hk, hk']; cases ρ x with
      | none => rfl
      | some a => cases a <;> rfl
    · cases h
  case slice t x lo hi mx =>
    simp only [pureV0, sliceV]
    cases ht : c.tt.get t with
    | none => simp [ht] at h
    | some i =>
      simp only [ht] at h
      cases ρ x with
      | none => rfl
      | some a =>
        simp only []
        cases hk : i.k <;> simp only [hk] at h <;> first | (cases h; done) | (cases a <;> rfl)
  case call cl =>
    obtain ⟨callee, args, ats⟩ := cl
    cases callee <;> simp only [] at h <;> try (cases h; done)
    rename_i b
    cases b <;> simp only [] at h <;> try (cases h; done)
    · simp only [pureV0]
      split at h
      case h_2 => cases h
      rename_i t ts hts
      cases ht : c.tt.get t with
      | none => simp [ht] at h
      | some i =>
        simp only [ht] at h
        rw [hts]
        split
        · rename_i x l t' ts' hx heq
          cases heq
          simp only [lenV, ht]
          cases hk : i.k <;> simp only [hk] at h <;> first | (cases h; done) | (cases x <;> rfl)
        · rfl
    · rfl
    · rfl
theorem memFree_ok {o : Op} {ρ : Operand → Option V} {s s' : S} (h : memFree c o = true) : pureV c o ρ s = pureV c o ρ s' := by
  unfold pureV
  rw [memFree0_ok (s' := s') h]

theorem beqV_ok : ∀ (d : Nat) (x y : V), beqV d x y = true → x = y := by
  have all : ∀ (f : V → V → Bool), (∀ x y, f x y = true → x = y) → ∀ (l m : List V), beqV.all2 f l m = true → l = m := by
    intro f hf l
    induction l with
    | nil => intro m h; cases m <;> simp [beqV.all2] at h; rfl
    | cons a l ih =>
      intro m h
      cases m with
      | nil => simp [beqV.all2] at h
      | cons b m =>
        simp only [beqV.all2, Bool.and_eq_true] at h
        rw [hf a b h.1, ih m h.2]
  intro d
  induction d with
  | zero => intro x y h; simp [beqV] at h
  | succ d ih =>
    intro x y h
    simp only [beqV] at h
    split at h <;> first | rfl | (cases h; done) | skip
    all_goals try simp only [Bool.and_eq_true, beq_iff_eq, Nat.beq_eq, kindEq_eq, eqF_eq, strEq_eq, decide_eq_true_eq] at h
    · rw [h]
    · rw [h.1, h.2]
    · rw [h]
    · rw [h.1, h.2]
    · obtain ⟨⟨⟨⟨⟨rfl, rfl⟩, rfl⟩, rfl⟩, rfl⟩, rfl⟩ := h; rfl
    · rw [h]
    · rw [h.1, all _ ih _ _ h.2]
    · rw [all _ ih _ _ h]
    · rw [all _ ih _ _ h]
    · rw [h.1, ih _ _ h.2]
    · rw [h.1, h.2]
    · rw [h]
theorem sameRead_ok {r : S → Option V} {v : V} {s : S} (h : sameRead r v s = true) : r s = some v := by
  unfold sameRead at h
  split at h
  · rename_i v' hv; rw [hv, ← beqV_ok _ _ _ h]
  · cases h
theorem allN_ok {f : Nat → Bool} : ∀ {l : List Nat}, allN f l = true → ∀ a ∈ l, f a = true
  | [], _, a, ha => by cases ha
  | x :: l, h, a, ha => by
    simp only [allN, Bool.and_eq_true] at h
    cases ha with
    | head => exact h.1
    | tail _ ha => exact allN_ok h.2 a ha
theorem allR_ok {f : Rec → Bool} : ∀ {l : List Rec}, allR f l = true → ∀ a ∈ l, f a = true
  | [], _, a, ha => by cases ha
  | x :: l, h, a, ha => by
    simp only [allR, Bool.and_eq_true] at h
    cases ha with
    | head => exact h.1
    | tail _ ha => exact allR_ok h.2 a ha
theorem has_ok : ∀ {t : Nat} {l : List Nat}, has t l = true ↔ t ∈ l
  | t, [] => by simp [has]
  | t, a :: l => by simp only [has, Bool.or_eq_true, Nat.beq_eq, has_ok, List.mem_cons]; exact or_congr ⟨Eq.symm, Eq.symm⟩ Iff.rfl

-- masks
theorem bit_eq (m i : Nat) : bit m i = m.testBit i := by
  unfold bit
  rw [Nat.testBit_eq_decide_div_mod_eq, Nat.shiftRight_eq_div_pow, Bool.eq_iff_iff, Nat.beq_eq]
  simp
theorem orBits_ok : ∀ {es ms : List Nat} {e : Nat}, bit (orBits es ms) e = true → e ∈ es ∨ ∃ e' ∈ es, ∃ m, ms[e']? = some m ∧ bit m e = true
  | [], ms, e, h => by simp [orBits, bit_eq] at h
  | a :: es, ms, e, h => by
    simp only [orBits, bit_eq, Nat.testBit_or, Bool.or_eq_true] at h
    rcases h with (h | h) | h
    · rw [Nat.one_shiftLeft, Nat.testBit_two_pow] at h
      simp at h
      exact .inl (by simp [h])
    · rw [nth_eq] at h
      cases hm : ms[a]? with
      | none => simp [hm] at h
      | some m =>
        rw [hm] at h
        exact .inr ⟨a, by simp, m, hm, by rw [bit_eq]; exact h⟩
    · rcases orBits_ok (es := es) (ms := ms) (e := e) (by rw [bit_eq]; exact h) with h | ⟨e', h1, h2⟩
      · exact .inl (by simp [h])
      · exact .inr ⟨e', by simp [h1], h2⟩
theorem masks_ok : ∀ (l : List Oper) (ms : List Nat) (i : Nat) (m : Nat), (masks l ms)[i]? = some m → (i < ms.length ∧ ms[i]? = some m) ∨
    (ms.length ≤ i ∧ ∃ o, l[i - ms.length]? = some o ∧ m = orBits (edgesOf o.after.toList) ((masks l ms).take i))
  | [], ms, i, m, h => by
    simp only [masks] at h
    left
    refine ⟨?_, h⟩
    rcases Nat.lt_or_ge i ms.length with h' | h'
    · exact h'
    · simp [List.getElem?_eq_none h'] at h
  | o :: l, ms, i, m, h => by
    have pre : ∀ (l : List Oper) (ms : List Nat), (masks l ms).take ms.length = ms := by
      intro l
      induction l with
      | nil => intro ms; simp [masks]
      | cons o l ih =>
        intro ms
        simp only [masks]
        have := ih (ms ++ [orBits (edgesOf o.after.toList) ms])
        have h2 := congrArg (List.take ms.length) this
        rw [List.take_take] at h2
        simpa using h2
    simp only [masks] at h
    rcases masks_ok l _ i m h with ⟨h1, h2⟩ | ⟨h1, o', h2, h3⟩
    · simp only [List.length_append, List.length_cons, List.length_nil] at h1
      rcases Nat.lt_or_ge i ms.length with h' | h'
      · left; refine ⟨h', ?_⟩; rwa [List.getElem?_append_left h'] at h2
      · have : i = ms.length := by omega
        subst this
        right
        refine ⟨Nat.le_refl _, o, by simp, ?_⟩
        rw [List.getElem?_append_right (Nat.le_refl _)] at h2
        simp at h2
        rw [← h2]
        have := pre (o :: l) ms
        rw [this]
    · right
      simp only [List.length_append, List.length_cons, List.length_nil] at h1 h2
      refine ⟨by omega, o', ?_, h3⟩
      rw [show i - ms.length = (i - (ms.length + (0 + 1))) + 1 by omega]
      simpa using h2

/-- A set of operations that holds, of each one, what it waits for. -/
def Closed (ops : List Oper) (D : Nat → Prop) : Prop := ∀ (i : Nat) (o : Oper), ops[i]? = some o → D i → ∀ e ∈ edgesOf o.after.toList, D e
theorem closed_mask {ops : List Oper} {D : Nat → Prop} (hc : Closed ops D) : ∀ (i m : Nat) (o : Oper), (masks ops [])[i]? = some m → ops[i]? = some o → (∀ e ∈ edgesOf o.after.toList, D e) → ∀ e, bit m e = true → D e := by
  intro i
  induction i using Nat.strongRecOn with
  | _ i ih =>
    intro m o hm ho hD e he
    rcases masks_ok ops [] i m hm with ⟨h1, _⟩ | ⟨_, o', h2, h3⟩
    · simp at h1
    · simp only [List.length_nil, Nat.sub_zero] at h2
      rw [ho] at h2; cases h2
      rw [h3] at he
      rcases orBits_ok he with h | ⟨e', h1, m', h2, h3⟩
      · exact hD e h
      · have hlt : e' < i := by
          rcases Nat.lt_or_ge e' i with h' | h'
          · exact h'
          · rw [List.getElem?_take] at h2
            rw [if_neg (by omega)] at h2; cases h2
        rw [List.getElem?_take, if_pos hlt] at h2
        rcases masks_ok ops [] e' m' h2 with ⟨q, _⟩ | ⟨_, o2, q2, _⟩
        · simp at q
        · simp only [List.length_nil, Nat.sub_zero] at q2
          exact ih e' hlt m' o2 h2 q2 (hc e' o2 q2 (hD e' h1)) e h3
end
end Go.Ai
