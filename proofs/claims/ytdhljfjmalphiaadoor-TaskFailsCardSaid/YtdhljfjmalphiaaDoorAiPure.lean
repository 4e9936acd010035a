/- Operations that leave memory alone: the evaluator's answer is the model's. -/
import Derived.Test.YtdhljfjmalphiaaDoorAiHeap
namespace Go.Ai

/-- What a row of the table of types says of the program. -/
structure TIok (P : Program) (t : Nat) (i : TI) : Prop where
  ex : ∃ info d z, P.info? t = some info ∧ P.underlying t = some d ∧ info.zero = some z ∧ toV z = some i.zv ∧ kOf P d = i.k ∧ info.size = i.size ∧ info.bytes = i.bytes ∧ aggD d = i.agg
  len : i.zero.length = i.size
  cmp : i.cmp = true → P.stoodInHeld t = false ∧ P.eqGuardType P.depth t = false

theorem mkTI_ok {P : Program} {t : Nat} {b : Bool} {i : TI} (h : mkTI P t b = some i) : TIok P t i := by
  unfold mkTI at h
  split at h
  · cases h
  rename_i info h1
  split at h
  · cases h
  rename_i d h2
  split at h
  · cases h
  rename_i z h3
  split at h
  · cases h
  rename_i v h4
  split at h
  · cases h
  rename_i h5
  have h5 := Nat.eq_of_beq_eq_true h5
  cases b with
  | false =>
    simp only [Option.some.injEq] at h
    subst h
    exact ⟨⟨info, d, z, h1, h2, h3, h4, rfl, rfl, rfl, rfl⟩, h5, fun h => by cases h⟩
  | true =>
    simp only at h
    cases hc : (!P.stoodInHeld t && !P.eqGuardType P.depth t) with
    | false => simp [hc] at h
    | true =>
      simp only [hc, cond_true, Option.some.injEq] at h
      subst h
      simp at hc
      exact ⟨⟨info, d, z, h1, h2, h3, h4, rfl, rfl, rfl, rfl⟩, h5, fun _ => hc⟩

/-- The oracle tells what the model's operations give. -/
def OrcOk [Val] (P : Program) (orc : OrcF) : Prop := ∀ (o : Oper) args v, orc o.op args = some v → ∀ (σ : Sg) (w : World) (ρc : Operand → Value), VRs σ args (o.op.operands.toList.map ρc) →
  ∃ u, (execOp ρc o).run P w = .ok (.value u) w ∧ VR σ v u
structure TOk [Val] (P : Program) (c : Ctx) : Prop where
  tt : ∀ t i, c.tt.get t = some i → TIok P t i
  orc : OrcOk P c.orc

section
variable {P : Program} {w : World} {t : Nat}
theorem run_underlying {d : TypeDesc} (h : P.underlying t = some d) : (underlying t).run P w = .ok d w := by
  simp [underlying, h]
theorem run_typeInfo {i : TypeInfo} (h : P.info? t = some i) : (typeInfo t).run P w = .ok i w := by
  simp [typeInfo, h]
theorem run_sizeOf [Val] {i : TypeInfo} (h : P.info? t = some i) : (sizeOf t).run P w = .ok i.size w := by
  simp [sizeOf, run_typeInfo h]
theorem run_zeroValue {i : TypeInfo} {z : Value} (h : P.info? t = some i) (hz : i.zero = some z) : (zeroValue t).run P w = .ok z w := by
  simp [zeroValue, run_typeInfo h, hz]
end

/-- Which shapes a kind stands for. -/
theorem kOf_bool {P : Program} {d : TypeDesc} (h : kOf P d = .bool) : d = .bool := by
  cases d <;> simp only [kOf] at h <;> first | rfl | cases h | (split at h <;> cases h)
theorem kOf_int {P : Program} {d : TypeDesc} {k : IntKind} (h : kOf P d = .int k) : d = .int k := by
  cases d <;> simp only [kOf] at h <;> first | (cases h; rfl) | cases h | (split at h <;> cases h)
theorem kOf_str {P : Program} {d : TypeDesc} (h : kOf P d = .str) : d = .string := by
  cases d <;> simp only [kOf] at h <;> first | rfl | cases h | (split at h <;> cases h)
theorem kOf_ptr {P : Program} {d : TypeDesc} {e : Nat} (h : kOf P d = .ptr e) : d = .pointer e := by
  cases d <;> simp only [kOf] at h <;> first | (cases h; rfl) | cases h | (split at h <;> cases h)
theorem kOf_usp {P : Program} {d : TypeDesc} (h : kOf P d = .usp) : d = .unsafePointer := by
  cases d <;> simp only [kOf] at h <;> first | rfl | cases h | (split at h <;> cases h)
theorem kOf_slice {P : Program} {d : TypeDesc} {e : Nat} (h : kOf P d = .slice e) : d = .slice e := by
  cases d <;> simp only [kOf] at h <;> first | (cases h; rfl) | cases h | (split at h <;> cases h)
theorem kOf_arr {P : Program} {d : TypeDesc} {n e : Nat} (h : kOf P d = .arr n e) : d = .array n e := by
  cases d <;> simp only [kOf] at h <;> first | (cases h; rfl) | cases h | (split at h <;> cases h)
theorem kOf_map {P : Program} {d : TypeDesc} {k e : Nat} (h : kOf P d = .map k e) : d = .map k e := by
  cases d <;> simp only [kOf] at h <;> first | (cases h; rfl) | cases h | (split at h <;> cases h)
theorem kOf_ifc {P : Program} {d : TypeDesc} (h : kOf P d = .ifc) : ∃ ms, d = .interface ms := by
  cases d <;> simp only [kOf] at h <;> first | exact ⟨_, rfl⟩ | cases h | (split at h <;> cases h)
theorem kOf_func {P : Program} {d : TypeDesc} (h : kOf P d = .func) : ∃ a b v, d = .func a b v := by
  cases d <;> simp only [kOf] at h <;> first | exact ⟨_, _, _, rfl⟩ | cases h | (split at h <;> cases h)
theorem kOf_struct {P : Program} {d : TypeDesc} {fs : List (Nat × Nat × Nat × Bool)} (h : kOf P d = .struct fs) :
    ∃ fields : Array Field, d = .struct fields ∧ fieldsK P fields.toList = some fs := by
  cases d <;> simp only [kOf] at h <;> first | cases h | skip
  rename_i fields
  split at h
  · rename_i l hl; cases h; exact ⟨fields, rfl, hl⟩
  · cases h
theorem fieldsK_get {P : Program} : ∀ {l : List Field} {fs : List (Nat × Nat × Nat × Bool)}, fieldsK P l = some fs → fs.length = l.length ∧
    ∀ (i : Nat) (off ty size : Nat) (bl : Bool), fs[i]? = some (off, ty, size, bl) → ∃ f info, l[i]? = some f ∧ f.offset = off ∧ f.type = ty ∧ P.info? f.type = some info ∧ info.size = size ∧ (f.name == "_") = bl
  | [], fs, h => by simp [fieldsK] at h; subst h; simp
  | f :: l, fs, h => by
    simp only [fieldsK] at h
    cases h1 : P.info? f.type with
    | none => simp [h1] at h
    | some i =>
      cases h2 : fieldsK P l with
      | none => simp [h1, h2] at h
      | some r =>
        simp only [h1, h2, Option.some.injEq] at h
        subst h
        obtain ⟨g1, g2⟩ := fieldsK_get h2
        refine ⟨by simp [g1], fun j off ty size bl hj => ?_⟩
        cases j with
        | zero =>
          simp only [List.getElem?_cons_zero, Option.some.injEq, Prod.mk.injEq] at hj
          obtain ⟨rfl, rfl, rfl, rfl⟩ := hj
          exact ⟨f, i, by simp, rfl, rfl, h1, rfl, rfl⟩
        | succ j => simpa using g2 j off ty size bl (by simpa using hj)

section
variable {P : Program} {c : Ctx} {ng : Nat} {pr : Prt} {w0 : World} {σ : Sg} {s : S} {w : World}

/-- The table's row at hand. -/
theorem TOk.at [Val] (T : TOk P c) {t : Nat} {i : TI} (h : c.tt.get t = some i) : ∃ info d z, P.info? t = some info ∧ P.underlying t = some d ∧ info.zero = some z ∧ toV z = some i.zv ∧ kOf P d = i.k ∧ info.size = i.size ∧ info.bytes = i.bytes ∧ aggD d = i.agg :=
  (T.tt t i h).ex
theorem run_isAgg [Val] (T : TOk P c) {t : Nat} {i : TI} (h : c.tt.get t = some i) : (isAgg t).run P w = .ok i.isAgg w := by
  obtain ⟨info, d, z, h1, h2, h3, h4, h6, h7, h8, h9⟩ := T.at h
  simp only [isAgg, Sem.run_bind, run_underlying h2, Result.andThen_ok]
  unfold TI.isAgg
  rw [← h9]
  cases d <;> rfl
theorem run_size [Val] (T : TOk P c) {t : Nat} {i : TI} (h : c.tt.get t = some i) : (sizeOf t).run P w = .ok i.size w := by
  obtain ⟨info, d, z, h1, h2, h3, h4, h6, h7, h8, h9⟩ := T.at h
  rw [run_sizeOf h1, h7]
theorem run_zero [Val] (T : TOk P c) {t : Nat} {i : TI} (h : c.tt.get t = some i) : ∃ z, (zeroValue t).run P w = .ok z w ∧ VR σ i.zeroV z := by
  obtain ⟨info, d, z, h1, h2, h3, h4, h6, h7, h8, h9⟩ := T.at h
  exact ⟨z, run_zeroValue h1 h3, toV_ok h4⟩

theorem part_ok [Val] (T : TOk P c) {t off : Nat} {cs : List V} {arr : Array Value} {v : V} (h : partV c t cs off = some v) (ha : VRs σ cs arr.toList) :
    ∃ x, (part t arr off).run P w = .ok x w ∧ VR σ v x := by
  unfold partV at h
  split at h
  case h_2 => cases h
  rename_i i hi
  simp only [part, Sem.run_bind, run_isAgg T hi, Result.andThen_ok]
  cases hg : i.isAgg with
  | true =>
    simp only [hg] at h
    simp only [if_true, Sem.run_bind, run_size T hi, Result.andThen_ok, Sem.run_pure]
    cases hs : sub cs off i.size with
    | none => simp [hs] at h
    | some r =>
      simp only [hs, Option.some.injEq] at h
      subst h
      refine ⟨_, rfl, ?_⟩
      simp only [VR]
      refine ⟨_, rfl, ?_⟩
      obtain ⟨e1, e2, e3⟩ := sub_some hs
      have hlen := ha.length
      simp only [Array.toList_extract]
      refine VRs.of_get ?_ fun j u hj => ?_
      · simp [List.length_take, List.length_drop]; simp at hlen; omega
      · have hjlt : j < i.size := by
          rcases Nat.lt_or_ge j r.length with h' | h'
          · omega
          · simp [List.getElem?_eq_none h'] at hj
        rw [sub_get hs j hjlt] at hj
        obtain ⟨x, hx, hr⟩ := ha.get hj
        refine ⟨x, ?_, hr⟩
        simp [List.getElem?_drop, hjlt]
        simpa using hx
  | false =>
    simp only [hg] at h
    rw [nth_eq] at h
    obtain ⟨x, hx, hr⟩ := ha.get h
    have hx' : arr[off]? = some x := by simpa using hx
    simp only [Bool.false_eq_true, if_false, hx']
    exact ⟨x, rfl, hr⟩
end
end Go.Ai
