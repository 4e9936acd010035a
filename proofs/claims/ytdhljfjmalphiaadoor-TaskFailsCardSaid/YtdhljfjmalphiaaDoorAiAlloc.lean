/- Operations that make one block. -/
import Derived.Test.YtdhljfjmalphiaaDoorAiPureG
namespace Go.Ai
section
variable {P : Program} {c : Ctx} {ng : Nat} {pr : Prt} {w0 : World} {σ : Sg} {s : S} {w : World}

theorem repeatV_get {α : Type} (z : List α) : ∀ (n i : Nat), (repeatV z n).length = n * z.length ∧ (i < n * z.length → (repeatV z n)[i]? = z[i % z.length]?)
  | 0, i => by simp [repeatV]
  | n + 1, i => by
    obtain ⟨h1, h2⟩ := repeatV_get z n (i - z.length)
    refine ⟨by simp only [repeatV, List.length_append, h1]; rw [Nat.succ_mul]; omega, fun hi => ?_⟩
    simp only [repeatV]
    rcases Nat.lt_or_ge i z.length with hlt | hge
    · rw [List.getElem?_append_left hlt, Nat.mod_eq_of_lt hlt]
    · rw [List.getElem?_append_right hge, h2 (by rw [Nat.succ_mul] at hi; omega)]
      congr 1
      rw [Nat.mod_eq_sub_mod hge]
theorem zeroCells_ok [Val] {z : List V} {zs : Array Value} (h : VRs σ z zs.toList) (n : Nat) : VRs σ (repeatV z n) ((Array.range (n * z.length)).map (zs[· % zs.size]!)).toList := by
  have hl := h.length
  simp only [Array.length_toList] at hl
  obtain ⟨r1, _⟩ := repeatV_get z n 0
  refine VRs.of_get (by simp [r1]) fun i v hi => ?_
  have hlt : i < n * z.length := by
    rcases Nat.lt_or_ge i (repeatV z n).length with h' | h'
    · omega
    · simp [List.getElem?_eq_none h'] at hi
  rw [(repeatV_get z n i).2 hlt] at hi
  obtain ⟨x, hx, hr⟩ := h.get hi
  refine ⟨x, ?_, hr⟩
  have hpos : 0 < zs.size := by
    rcases Nat.eq_zero_or_pos zs.size with h0 | h0
    · rw [← hl] at h0; rw [h0] at hlt; omega
    · exact h0
  simp only [Array.toList_map, Array.toList_range, List.getElem?_map]
  rw [List.getElem?_range hlt]
  simp only [Option.map_some]
  rw [← hl]
  have hx' : zs[i % z.length]? = some x := by simpa using hx
  rw [getElem!_def, hx']

/-- What an operation that makes a block leaves. -/
structure Made [Val] (P : Program) (σ : Sg) (w : World) (nx : Sem Next) (ob : O) (f : Nat → V) : Prop where
  ex : ∃ cv w' obj ce, nx.run P w = .ok (.value cv) w' ∧ w'.heap = w.heap.push obj ∧ (w'.os = w.os ∧ w'.output = w.output ∧ w'.tape = w.tape) ∧
    ∀ (σ' : Sg) (b : Nat), Ext σ σ' → σ' b = some (w.heap.size, 0, ce) → VR σ' (f b) cv ∧ ∀ w'' : World, w''.heap[w.heap.size]? = some obj → OR σ' w'' b ob

theorem made_cells [Val] {nx : Sem Next} {cs : List V} {arr : Array Value} {el : Nat} {f : Nat → V} {cv : Value} {tg : Tg}
    (hr : nx.run P w = .ok (.value cv) { w with heap := w.heap.push (.cells arr el) })
    (hc : VRs σ cs arr.toList) (hv : ∀ (σ' : Sg) (b : Nat), Ext σ σ' → σ' b = some (w.heap.size, 0, arr.size) → VR σ' (f b) cv) (ht : tg = .no ∨ tg = .el el true) : Made P σ w nx (.cells true tg cs) f := by
  refine ⟨⟨cv, _, .cells arr el, arr.size, hr, rfl, ⟨rfl, rfl, rfl⟩, fun σ' b he hb => ⟨hv σ' b he hb, fun w'' hw => ?_⟩⟩⟩
  have hl := hc.length
  simp only [Array.length_toList] at hl
  refine ⟨w.heap.size, 0, arr.size, arr, el, (0, 0), hb, hw, by omega, Nat.le_refl _, fun i x hx => ?_, fun _ => ⟨.inl rfl, fun _ => rfl, fun t wh e => by rcases ht with rfl | rfl <;> cases e <;> exact ⟨rfl, fun _ => ⟨rfl, hl.symm⟩⟩⟩⟩
  obtain ⟨y, hy, hr⟩ := hc.get hx
  exact ⟨y, by simpa using hy, VR.mono he _ _ hr⟩

theorem modify_snoc {α : Type} (f : α → α) (x : α) : ∀ l : List α, (l ++ [x]).modify l.length f = l ++ [f x]
  | [] => rfl
  | a :: l => by simp [modify_snoc f x l]

theorem cond_some {α : Type} {b : Bool} {x : Option α} {y : α} (h : cond b x none = some y) : x = some y := by
  cases b
  · cases h
  · exact h
theorem allocV_rw {ρ : Operand → Option V} {op : Op} {ob : O} {f : Nat → V} (h : allocV c op ρ = some (ob, f)) : ob.rw = true := by
  cases op <;> simp only [allocV] at h <;> try (cases h; done)
  all_goals
    repeat' (split at h)
    all_goals first | (cases h; done) | (cases h; rfl) | skip
  all_goals
    have h := cond_some h
    first
      | (cases h; done)
      | (cases h; rfl)
      | (split at h
         · cases h; rfl
         · cases h)

theorem alloc_ok [Val] (T : TOk P c) {ρ : Operand → Option V} {ρc : Operand → Value} (hρ : ∀ x v, ρ x = some v → VR σ v (ρc x)) {o : Oper} {ob : O} {f : Nat → V}
    (h : allocV c o.op ρ = some (ob, f)) : Made P σ w (execOp ρc o) ob f := by
  obtain ⟨dst, op, ty, pos, after, guard⟩ := o
  cases op <;> simp only [allocV] at h <;> try (cases h; done)
  case alloc e =>
    split at h
    case h_2 => cases h
    rename_i i hi
    cases h
    obtain ⟨info, d, z, h1, h2, h3, h4, h6, h7, h8, h9⟩ := T.at hi
    have hz : VRs σ i.zero z.cells.toList := (toV_ok h4).cells
    refine made_cells (arr := z.cells) (el := e) (cv := .pointer (some ⟨w.heap.size, 0, none⟩)) ?_ hz ?_ (.inr rfl)
    · refine run_value ?_
      simp [Instr.alloc, run_zeroValue h1 h3, newVar, newRow]
    · intro σ' b he hb
      simp only [VR]; exact ⟨_, _, _, hb, rfl⟩
  case box e x =>
    split at h
    case h_2 => cases h
    rename_i v hv
    cases h
    refine made_cells (arr := (ρc x).cells) (el := e) (cv := .pointer (some ⟨w.heap.size, 0, none⟩)) ?_ (hρ _ _ hv).cells ?_ (.inl rfl)
    · refine run_value ?_
      simp [Instr.box, newVar, newRow]
    · intro σ' b he hb
      simp only [VR]; exact ⟨_, _, _, hb, rfl⟩
  case buildSlice t len ps =>
    split at h
    case h_2 => cases h
    rename_i i l hi hl
    obtain ⟨info, d, z, h1, h2, h3, h4, h6, h7, h8, h9⟩ := T.at hi
    split at h
    case h_2 => cases h
    rename_i e hk
    rw [hk] at h6; have := kOf_slice h6; subst this
    cases he : c.tt.get e with
    | none => simp [he] at h
    | some ie =>
      simp only [he] at h
      obtain ⟨info', d', z', g1, g2, g3, g4, g6, g7, g8, g9⟩ := T.at he
      have glen := (T.tt e ie he).len
      cases hc : Nat.ble (len * ie.size) 16777216 with
      | false => simp only [hc, cond_false] at h; cases h
      | true =>
        simp only [hc, cond_true] at h
        rw [Nat.ble_eq] at hc
        split at h
        case h_2 => cases h
        rename_i cs hf
        cases h
        have hz : VRs σ ie.zero z'.cells.toList := (toV_ok g4).cells
        have hzz := zeroCells_ok hz len
        rw [glen] at hzz
        have hp := partsV_ok hρ hl
        have hrep : (if len * ie.size = 0 then (Pure.pure #[] : Sem (Array Value)) else do pure (← zeroValue e).cells).run P w = .ok (if len * ie.size = 0 then #[] else z'.cells) w := by
          split
          · simp
          · simp [run_zeroValue g1 g3]
        have hzz' : VRs σ (repeatV ie.zero len) ((Array.range (len * ie.size)).map ((if len * ie.size = 0 then #[] else z'.cells)[· % (if len * ie.size = 0 then #[] else z'.cells).size]!)).toList := by
          by_cases h0 : len * ie.size = 0
          · rw [h0]; rw [h0] at hzz; simpa using hzz
          · simpa [h0] using hzz
        obtain ⟨arr, hfa, hra⟩ := fill_ok (ps' := (ps.map fun (i, x) => (i, ρc x)).toList) (by simpa using hp) hf hzz'
        refine made_cells (arr := arr) (el := e) (cv := .slice (some ⟨w.heap.size, 0, none⟩) len len) ?_ hra ?_ (.inl rfl)
        · refine run_value ?_
          simp only [Instr.buildSlice, Sem.run_bind, run_underlying h2, Result.andThen_ok, run_size T he, Sem.run_ite]
          rw [if_neg (by omega)]
          simp only [Sem.run_pure, Result.andThen_ok]
          have hrep' := hrep
          simp only [Sem.run_ite] at hrep'
          split
          · rename_i h0
            simp only [h0, if_true] at hfa
            rw [h0]
            simp only [hfa, Sem.run_bind, newRow, run_newObj, Result.andThen_ok, Sem.run_pure]
          · rename_i h0
            simp only [h0, if_false] at hfa
            simp only [run_zeroValue g1 g3, Result.andThen_ok]
            simp only [hfa, Sem.run_bind, newRow, run_newObj, Result.andThen_ok, Sem.run_pure]
        · intro σ' b he' hb
          simp only [VR]
          refine ⟨_, len, rfl, Nat.le_refl _, Nat.le_refl _, fun _ => rfl, .inr ⟨_, _, _, hb, by simp, ?_⟩⟩
          have := hra.length
          have h2 : cs.length = len * ie.size := by
            have hfl : ∀ (ps : List (Nat × V)) (a b : List V), fillV (fun j => some (j * ie.size, ie.size)) a ps = some b → b.length = a.length := by
              intro ps
              induction ps with
              | nil => intro a b h; simp only [fillV, Option.some.injEq] at h; rw [h]
              | cons p ps ih =>
                intro a b h
                obtain ⟨i, v⟩ := p
                simp only [fillV] at h
                split at h
                · cases h
                · split at h
                  · rename_i q hq
                    rw [ih _ _ h, (upd_some _ _ _ _ hq).1]
                  · cases h
            rw [hfl _ _ _ hf, (repeatV_get ie.zero len 0).1, glen]
          simp only [Array.length_toList] at this
          omega
  case makeMap t r =>
    cases r with
    | some _ => simp at h
    | none =>
      simp only [] at h
      split at h
      case h_2 => cases h
      rename_i i hi
      split at h
      case h_2 => cases h
      cases h
      refine ⟨⟨.map (some w.heap.size), { w with heap := w.heap.push (.map #[] 0) }, .map #[] 0, 1, ?_, rfl, ⟨rfl, rfl, rfl⟩, fun σ' b he hb => ⟨?_, fun w'' hw => ?_⟩⟩⟩
      · refine run_value ?_
        simp [Instr.makeMap]
      · simp only [VR]; exact ⟨_, _, _, hb, rfl⟩
      · exact ⟨_, #[], 0, hb, hw, by simp [EntR]⟩
  case makeSlice t l m =>
    split at h
    case h_2 => cases h
    rename_i l m i hl hm hi
    obtain ⟨info, d, z, h1, h2, h3, h4, h6, h7, h8, h9⟩ := T.at hi
    split at h
    case h_2 => cases h
    rename_i e hk
    rw [hk] at h6; have := kOf_slice h6; subst this
    cases he : c.tt.get e with
    | none => simp [he] at h
    | some ie =>
      simp only [he] at h
      obtain ⟨info', d', z', g1, g2, g3, g4, g6, g7, g8, g9⟩ := T.at he
      have glen := (T.tt e ie he).len
      cases hc : (Nat.ble l m && Nat.ble (ie.bytes * m) 1099511627776 && Nat.ble m 1099511627776) with
      | false => simp only [hc, cond_false] at h; cases h
      | true =>
        simp only [hc, cond_true, Option.some.injEq, Prod.mk.injEq] at h
        obtain ⟨rfl, rfl⟩ := h
        simp only [Bool.and_eq_true, Nat.ble_eq] at hc
        obtain ⟨⟨c1, c2⟩, c3⟩ := hc
        have hl' := hρ _ _ hl
        have hm' := hρ _ _ hm
        simp only [VR] at hl' hm'
        have hz : VRs σ ie.zero z'.cells.toList := (toV_ok g4).cells
        have hzz := zeroCells_ok hz m
        rw [glen] at hzz
        have wl : IntKind.i64.wrap (Int.ofNat l) = (l : Int) := wrap_self (by simp) (by rw [Int.ofNat_eq_natCast]; show _ < ((9223372036854775808 : Nat) : Int); omega)
        have wm : IntKind.i64.wrap (Int.ofNat m) = (m : Int) := wrap_self (by simp) (by rw [Int.ofNat_eq_natCast]; show _ < ((9223372036854775808 : Nat) : Int); omega)
        have hbm : (ie.bytes : Int) * (m : Int) ≤ 1099511627776 := by
          have h := Int.ofNat_le.2 c2
          rw [Int.natCast_mul] at h
          exact h
        have hzz' : VRs σ (repeatV ie.zero m) ((Array.range (m * ie.size)).map ((if m * ie.size = 0 then #[] else z'.cells)[· % (if m * ie.size = 0 then #[] else z'.cells).size]!)).toList := by
          by_cases h0 : m * ie.size = 0
          · rw [h0]; rw [h0] at hzz; simpa using hzz
          · simpa [h0] using hzz
        refine made_cells (arr := (Array.range (m * ie.size)).map ((if m * ie.size = 0 then #[] else z'.cells)[· % (if m * ie.size = 0 then #[] else z'.cells).size]!)) (el := e) (cv := .slice (some ⟨w.heap.size, 0, none⟩) l m) ?_ hzz' ?_ (.inl rfl)
        · refine run_value ?_
          simp only [Instr.makeSlice, Sem.run_bind, run_underlying h2, Result.andThen_ok, hl', hm', asInt, asIntOf, Sem.run_pure, run_typeInfo g1, g8]
          rw [wl, wm]
          rw [if_neg]
          · simp only [Sem.run_bind, Sem.run_pure, Result.andThen_ok, run_askRoom, run_size T he, Int.toNat_natCast, Sem.run_ite]
            split
            · rename_i h0
              simp only [Sem.run_pure, Result.andThen_ok, Sem.run_bind, newRow, run_newObj]
            · rename_i h0
              simp only [Sem.run_bind, run_zeroValue g1 g3, Sem.run_pure, Result.andThen_ok, newRow, run_newObj]
          · simp
            omega
        · intro σ' b he' hb
          simp only [VR]
          refine ⟨_, m, rfl, c1, Nat.le_refl _, fun _ => rfl, .inr ⟨_, _, _, hb, by simp, ?_⟩⟩
          simp
  case convert src dst x =>
    split at h
    case h_2 => cases h
    rename_i l i j hx hi hj
    obtain ⟨info, d, z, h1, h2, h3, h4, h6, h7, h8, h9⟩ := T.at hi
    obtain ⟨infoj, dj, zj, j1, j2, j3, j4, j6, j7, j8, j9⟩ := T.at hj
    split at h
    case h_2 => cases h
    rename_i e hk hk'
    rw [hk] at h6; have := kOf_str h6; subst this
    rw [hk'] at j6; have := kOf_slice j6; subst this
    cases he : c.tt.get e with
    | none => simp [he] at h
    | some ie =>
      simp only [he] at h
      obtain ⟨info', d', z', g1, g2, g3, g4, g6, g7, g8, g9⟩ := T.at he
      split at h
      case h_2 => cases h
      rename_i hke
      rw [hke] at g6; have := kOf_int g6; subst this
      cases h
      have hx' := hρ _ _ hx
      simp only [VR] at hx'
      obtain ⟨su, hv, rfl⟩ := hx'
      let need := su.size
      let cap := need + (w.tape w.drawn (.appendCap need 0 e)) % (2 ^ 63 - need)
      let arr : Array Value := (su.data.map fun b => Value.int .u8 b.toNat) ++ Array.replicate (cap - need) (.int .u8 0)
      have hcap : need ≤ cap := by simp only [cap]; omega
      have harr : arr.size = cap := by
        simp only [arr, Array.size_append, Array.size_map, Array.size_replicate]
        have : su.data.size = need := rfl
        omega
      refine ⟨⟨.slice (some ⟨w.heap.size, 0, none⟩) need cap, { w with heap := w.heap.push (.cells arr e (cap, cap + 1)), drawn := w.drawn + 1 }, .cells arr e (cap, cap + 1), cap, ?_, rfl, ⟨rfl, rfl, rfl⟩, fun σ' b he' hb => ⟨?_, fun w'' hw => ?_⟩⟩⟩
      · refine run_value ?_
        simp only [hv, convert, Sem.run_bind, run_underlying h2, run_underlying j2, run_underlying g2, Result.andThen_ok, Conv.stringToBytes, run_choose, Question.forced, Bool.false_eq_true, if_false, Question.cut, newRow, run_newObj, Sem.run_pure, markStringish, run_shape, World.shape?]
        simp only [Array.getElem?_push_size, run_freeze, Result.andThen_ok]
        show Result.ok _ (World.freeze { w with drawn := w.drawn + 1, heap := w.heap.push (.cells arr e) } { block := w.heap.size, off := arr.size } 1) = _
        unfold World.freeze
        rw [if_neg (by omega)]
        congr 2
        simp only []
        apply Array.ext'
        simp only [Array.toList_modify, Array.toList_push]
        rw [harr]
        rw [← Array.length_toList, modify_snoc]
        simp
      · simp only [VR]
        rw [nats_length]
        exact ⟨_, cap, rfl, Nat.le_refl _, hcap, (fun h => by cases h), Or.inr ⟨_, _, _, hb, by simp, by simp⟩⟩
      · refine ⟨w.heap.size, 0, cap, arr, e, (cap, cap + 1), hb, hw, by simp only [List.length_map, Nat.zero_add]; exact hcap, by omega, fun i x hx => ?_, fun _ => ⟨.inr (by rw [harr]), (fun h => by cases h), fun t wh e => by cases e⟩⟩
        rw [List.getElem?_map] at hx
        cases hn : (nats su)[i]? with
        | none => simp [hn] at hx
        | some n =>
          simp only [hn, Option.map_some, Option.some.injEq] at hx; subst hx
          obtain ⟨b', hb', hbn⟩ : ∃ b', su.data.toList[i]? = some b' ∧ b'.toNat = n := by
            simpa [nats, List.getElem?_map] using hn
          refine ⟨.int .u8 b'.toNat, ?_, by simp only [byteV, VR]; rw [hbn]; rfl⟩
          have hi' : i < su.data.size := by
            rcases Nat.lt_or_ge i su.data.toList.length with h' | h'
            · simpa using h'
            · simp [List.getElem?_eq_none h'] at hb'
          simp only [arr, Nat.zero_add]
          rw [Array.getElem?_append_left (by simpa using hi')]
          simp only [Array.getElem?_map]
          have : su.data[i]? = some b' := by simpa using hb'
          rw [this]; rfl
end
end Go.Ai
