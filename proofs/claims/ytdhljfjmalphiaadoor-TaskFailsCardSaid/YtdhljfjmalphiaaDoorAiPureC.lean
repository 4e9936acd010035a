/- Aggregates, slices, conversions, maps: the evaluator's answer is the model's. -/
import Derived.Test.YtdhljfjmalphiaaDoorAiPureB
import Derived.Laws.Tables
import Derived.Laws.BytesString
namespace Go.Ai

/-- Parts of an aggregate. -/
def PR [Val] (σ : Sg) : List (Nat × V) → List (Nat × Value) → Prop
  | [], l => l = []
  | (i, v) :: ps, l => ∃ x l', l = (i, x) :: l' ∧ VR σ v x ∧ PR σ ps l'

section
variable {P : Program} {c : Ctx} {ng : Nat} {pr : Prt} {w0 : World} {σ : Sg} {s : S} {w : World}

theorem partsV_ok [Val] {ρ : Operand → Option V} {ρc : Operand → Value} (hρ : ∀ x v, ρ x = some v → VR σ v (ρc x)) : ∀ {ps : List (Nat × Operand)} {l : List (Nat × V)},
    partsV ρ ps = some l → PR σ l (ps.map fun (i, x) => (i, ρc x))
  | [], l, h => by simp [partsV] at h; subst h; simp [PR]
  | (i, x) :: ps, l, h => by
    simp only [partsV] at h
    cases h1 : ρ x with
    | none => simp [h1] at h
    | some v =>
      cases h2 : partsV ρ ps with
      | none => simp [h1, h2] at h
      | some r =>
        simp only [h1, h2, Option.some.injEq] at h
        subst h
        simp only [PR, List.map_cons]
        exact ⟨ρc x, _, rfl, hρ _ _ h1, partsV_ok hρ h2⟩
theorem evs_ok [Val] {ρ : Operand → Option V} {ρc : Operand → Value} (hρ : ∀ x v, ρ x = some v → VR σ v (ρc x)) : ∀ {xs : List Operand} {l : List V},
    evs ρ xs = some l → VRs σ l (xs.map ρc)
  | [], l, h => by simp [evs] at h; subst h; simp [VRs]
  | x :: xs, l, h => by
    simp only [evs] at h
    cases h1 : ρ x with
    | none => simp [h1] at h
    | some v =>
      cases h2 : evs ρ xs with
      | none => simp [h1, h2] at h
      | some r =>
        simp only [h1, h2, Option.some.injEq] at h
        subst h
        exact VRs.cons (hρ _ _ h1) (evs_ok hρ h2)

theorem foldl_set (off : Nat) : ∀ (l : List Value) (k : Nat) (arr : Array Value),
    ((l.zipIdx k).foldl (fun cs (x : Value × Nat) => cs.setIfInBounds (off + x.2) x.1) arr).size = arr.size ∧
    ∀ i, ((l.zipIdx k).foldl (fun cs (x : Value × Nat) => cs.setIfInBounds (off + x.2) x.1) arr)[i]? = if off + k ≤ i ∧ i < off + k + l.length ∧ i < arr.size then l[i - (off + k)]? else arr[i]?
  | [], k, arr => ⟨by simp, fun i => by rw [if_neg (by simp; omega)]; simp⟩
  | x :: l, k, arr => by
    simp only [List.zipIdx_cons, List.foldl_cons]
    obtain ⟨h1, h2⟩ := foldl_set off l (k + 1) (arr.setIfInBounds (off + k) x)
    refine ⟨by rw [h1]; simp, fun i => ?_⟩
    rw [h2 i]
    simp only [Array.size_setIfInBounds, List.length_cons]
    by_cases hi : off + (k + 1) ≤ i ∧ i < off + (k + 1) + l.length ∧ i < arr.size
    · rw [if_pos hi, if_pos (by omega), show i - (off + k) = (i - (off + (k + 1))) + 1 by omega]; simp
    · rw [if_neg hi]
      by_cases e : i = off + k
      · subst e
        by_cases hs : off + k < arr.size
        · rw [if_pos (by omega), Array.getElem?_setIfInBounds, if_pos rfl, if_pos hs]; simp
        · rw [if_neg (by omega), Array.getElem?_setIfInBounds, if_pos rfl, if_neg hs]
          simp [Array.getElem?_eq_none (Nat.le_of_not_lt hs)]
      · rw [if_neg (by omega), Array.getElem?_setIfInBounds_ne (Ne.symm e)]

theorem fill_ok [Val] {place : Nat → Option (Nat × Nat)} : ∀ {ps : List (Nat × V)} {ps' : List (Nat × Value)} {cells : List V} {arr : Array Value} {cs : List V}, PR σ ps ps' →
    fillV place cells ps = some cs → VRs σ cells arr.toList → ∃ arr', Instr.fill place arr ps' = some arr' ∧ VRs σ cs arr'.toList
  | [], ps', cells, arr, cs, hp, h, ha => by
    simp only [PR] at hp; subst hp
    simp only [fillV, Option.some.injEq] at h; subst h
    exact ⟨arr, rfl, ha⟩
  | (i, v) :: ps, ps', cells, arr, cs, hp, h, ha => by
    simp only [PR] at hp
    obtain ⟨x, l', rfl, hv, hp⟩ := hp
    simp only [fillV] at h
    cases h1 : place i with
    | none => simp [h1] at h
    | some p =>
      obtain ⟨off, size⟩ := p
      simp only [h1] at h
      cases h2 : Nat.beq v.cells.length size with
      | false => simp [h2] at h
      | true =>
        simp only [h2] at h
        have hsz := Nat.eq_of_beq_eq_true h2
        cases h3 : upd cells off v.cells with
        | none => simp [h3] at h
        | some cs1 =>
          simp only [h3] at h
          obtain ⟨u1, u2, u3⟩ := upd_some _ _ _ _ h3
          have hc := hv.cells
          have hcl := hc.length
          have hal := ha.length
          simp only [Array.length_toList] at hcl hal
          simp only [Instr.fill, h1]
          rw [if_neg (by simp; omega)]
          rw [← Array.foldl_toList, Array.toList_zipIdx]
          obtain ⟨g1, g2⟩ := foldl_set off x.cells.toList 0 arr
          refine fill_ok hp h ?_
          refine VRs.of_get (by simp only [Array.length_toList]; rw [g1]; omega) fun j u hj => ?_
          rw [u3 j] at hj
          rw [Array.getElem?_toList, g2 j]
          by_cases hi : off ≤ j ∧ j < off + v.cells.length
          · rw [if_pos hi] at hj
            rw [if_pos (by simp only [Array.length_toList]; omega)]
            exact hc.get hj
          · rw [if_neg hi] at hj
            rw [if_neg (by simp only [Array.length_toList]; omega)]
            have := ha.get hj
            simpa using this

theorem build_ok [Val] (T : TOk P c) {t : Nat} {ps : List (Nat × V)} {parts : Array (Nat × Value)} {v : V} (h : buildV c t ps = some v) (hp : PR σ ps parts.toList) :
    ∃ u, (Instr.build t parts).run P w = .ok u w ∧ VR σ v u := by
  unfold buildV at h
  split at h
  case h_2 => cases h
  rename_i i hi
  obtain ⟨info, d, z, h1, h2, h3, h4, h6, h7, h8, h9⟩ := T.at hi
  have hz : VRs σ i.zero z.cells.toList := (toV_ok h4).cells
  split at h
  case h_3 => cases h
  · rename_i fs hk
    rw [hk] at h6; obtain ⟨fields, rfl, hfk⟩ := kOf_struct h6
    split at h
    case h_2 => cases h
    rename_i cs hf
    cases h
    obtain ⟨f1, f2⟩ := fieldsK_get hfk
    have hplaces : fields.toList.mapM (fun f => (P.info? f.type).map fun i => (f.offset, i.size)) = some (fs.map fun x => (x.1, x.2.2.1)) := by
      clear h2 h6 h9 f1 f2 hf hk
      revert hfk
      generalize fields.toList = l
      intro hfk
      induction l generalizing fs with
      | nil => simp [fieldsK] at hfk; subst hfk; rfl
      | cons f l ih =>
        simp only [fieldsK] at hfk
        cases k1 : P.info? f.type with
        | none => simp [k1] at hfk
        | some info =>
          cases k2 : fieldsK P l with
          | none => simp [k1, k2] at hfk
          | some r =>
            simp only [k1, k2, Option.some.injEq] at hfk
            subst hfk
            simp [List.mapM_cons, k1, ih _ k2]
    have hplace : placeS fs = fun j => (fs.map fun x => (x.1, x.2.2.1)).toArray[j]? := by
      funext j
      simp only [placeS, nth_eq, List.getElem?_toArray, List.getElem?_map]
      cases fs[j]? with
      | none => rfl
      | some x => obtain ⟨a, b, c, d⟩ := x; rfl
    rw [hplace] at hf
    obtain ⟨arr', g1, g2⟩ := fill_ok hp hf hz
    refine ⟨.agg arr', ?_, by simp only [VR]; exact ⟨arr', rfl, g2⟩⟩
    refine run_build w t parts arr' ?_
    simp only [Program.built, h1, h2, h3, hplaces]
    exact g1
  · rename_i n e hk
    rw [hk] at h6; have := kOf_arr h6; subst this
    cases he : c.tt.get e with
    | none => simp [he] at h
    | some ie =>
      simp only [he] at h
      split at h
      case h_2 => cases h
      rename_i cs hf
      cases h
      obtain ⟨infoe, de, ze, e1, e2, e3, e4, e6, e7, e8, e9⟩ := T.at he
      obtain ⟨arr', g1, g2⟩ := fill_ok hp hf hz
      refine ⟨.agg arr', ?_, by simp only [VR]; exact ⟨arr', rfl, g2⟩⟩
      refine run_build w t parts arr' ?_
      simp only [Program.built, h1, h2, h3, e1, e7]
      exact g1

theorem load_ok [Val] (T : TOk P c) (R : Rel ng pr w0 σ s w) {t b o : Nat} {i : TI} {a : Value} {v : V} (hi : c.tt.get t = some i) (ha : VR σ (.ptr b o) a)
    (h : (match i.isAgg with
      | true => match s.cellsAt b o i.size with
        | some cs => some (.agg cs)
        | none => none
      | false => s.cellAt b o) = some v) : ∃ u, (Instr.loadAt t a).run P w = .ok u w ∧ VR σ v u := by
  simp only [VR] at ha
  obtain ⟨cb, co, ce, hσ, rfl⟩ := ha
  simp only [Instr.loadAt, Instr.sureAddr, loadVar, pure_bind, Sem.run_bind, run_isAgg T hi, Result.andThen_ok]
  cases hg : i.isAgg with
  | true =>
    simp only [hg] at h
    split at h
    case h_2 => cases h
    rename_i cs hcs
    cases h
    obtain ⟨xs, hx, hr, hl⟩ := R.cells hcs hσ
    simp only [if_true, Sem.run_bind, run_size T hi, Result.andThen_ok, hl P, Sem.run_pure]
    exact ⟨_, rfl, by simp only [VR]; exact ⟨_, rfl, hr⟩⟩
  | false =>
    simp only [hg] at h
    obtain ⟨x, hx, hr⟩ := R.cell h hσ
    simp only [Bool.false_eq_true, if_false, run_load, hx]
    exact ⟨x, rfl, hr⟩

theorem eqGuard_none {op : BinOp} {t : Nat} {xo yo : Operand} {u u' : Value} (h1 : ∀ a b, u = .agg a → u' = .agg b → False) (h2 : u = .nilIface → u' = .nilIface → False) :
    (eqGuard op t xo yo u u').run P w = .ok () w := by
  unfold eqGuard
  cases op <;> simp only [] <;> try rfl
  all_goals
    simp only [Bool.not_true, Bool.false_eq_true, if_false]
    split
    · exact (h2 rfl rfl).elim
    · exact (h1 _ _ rfl rfl).elim
    · rfl
theorem eqGuard_agg {t : Nat} (hg : P.eqGuardType P.depth t = false) {op : BinOp} {xo yo : Operand} {a b : Array Value} :
    (eqGuard op t xo yo (.agg a) (.agg b)).run P w = .ok () w := by
  unfold eqGuard
  cases op <;> simp only [] <;> try rfl
  all_goals simp [hg]
end
end Go.Ai
