/- Every operation that writes, or calls. -/
import Derived.Test.YtdhljfjmalphiaaDoorAiEff3
namespace Go.Ai
section
variable {P : Program} {c : Ctx} {ng : Nat} {pr : Prt} {w0 : World} {σ : Sg} {s : S} {w : World}

/-- The mark beside a slice of bytes. -/
theorem Rel.markB [Val] (R : Rel ng pr w0 σ s w) {b cb co ce : Nat} {sb : Tg} {cs : List V} {cc : Array Value} {el : TypeId} {fr : Nat × Nat} (hb : s.h.get b = some (.cells true sb cs)) (hσ : σ b = some (cb, co, ce))
    (hc : w.heap[cb]? = some (.cells cc el fr)) : Rel ng pr w0 σ { s with h := s.h.set b (.cells true .str cs) } (w.freeze { block := cb, off := cc.size } 1) := by
  obtain ⟨_, _, _, c0, el0, fr0, g1, g2, g3, g4, g5, g6⟩ := R.obj b _ hb
  rw [hσ] at g1; cases g1
  rw [hc] at g2; cases g2
  have hlt : cb < w.heap.size := by
    rcases Nat.lt_or_ge cb w.heap.size with h' | h'
    · exact h'
    · simp [Array.getElem?_eq_none h'] at hc
  have hfz : ∀ x, (w.freeze { block := cb, off := cc.size } 1).heap[x]? = if x = cb then some (.cells cc el (cc.size, cc.size + 1)) else w.heap[x]? := by
    intro x
    unfold World.freeze
    rw [if_neg (by omega)]
    simp only [Array.getElem?_modify]
    by_cases e : x = cb
    · subst e
      rw [if_pos rfl, if_pos rfl, hc]
      simp only [Option.map_some]
      rcases (g6 rfl).1 with rfl | rfl
      · simp
      · simp
    · rw [if_neg (Ne.symm e), if_neg e]
  have hsz : (w.freeze { block := cb, off := cc.size } 1).heap.size = w.heap.size := by
    unfold World.freeze; rw [if_neg (by omega)]; simp
  have hos : (w.freeze { block := cb, off := cc.size } 1).os = w.os ∧ (w.freeze { block := cb, off := cc.size } 1).output = w.output ∧ (w.freeze { block := cb, off := cc.size } 1).tape = w.tape := by
    unfold World.freeze; rw [if_neg (by omega)]; exact ⟨rfl, rfl, rfl⟩
  refine ⟨?_, ?_, R.fresh, ?_, ?_, R.glob, ?_, fun b' o' cb' co' ce' hg hrw hs => ?_, R.rolt⟩
  · intro b' o' h
    simp only [T.get_set] at h
    by_cases e : b' = b
    · subst e; rw [if_pos rfl] at h; cases h
      exact ⟨cb, co, ce, cc, el, (cc.size, cc.size + 1), hσ, by rw [hfz, if_pos rfl], g3, g4, g5, fun _ => ⟨.inr rfl, (fun h => by cases h), fun t wh e => by cases e⟩⟩
    · rw [if_neg e] at h
      refine (R.obj b' o' h).same fun cb2 co2 ce2 hs2 => ?_
      rw [hfz, if_neg]
      intro e2; subst e2
      exact R.disj b b' _ _ cb2 co ce co2 ce2 (Ne.symm e) hb h rfl hσ hs2
  · intro b1 b2 o1 o2 cb1 co1 ce1 co2 ce2 hne h1 h2 hrw s1 s2
    simp only [T.get_set] at h1 h2
    by_cases e1 : b1 = b
    · subst e1; rw [if_neg (Ne.symm hne)] at h2
      exact R.disj b1 b2 _ o2 cb1 co1 ce1 co2 ce2 hne hb h2 rfl s1 s2
    · rw [if_neg e1] at h1
      by_cases e2 : b2 = b
      · subst e2; exact R.disj b1 b2 o1 _ cb1 co1 ce1 co2 ce2 hne h1 hb hrw s1 s2
      · rw [if_neg e2] at h2
        exact R.disj b1 b2 o1 o2 cb1 co1 ce1 co2 ce2 hne h1 h2 hrw s1 s2
  · intro x hx
    have := R.prot x hx
    have hne : x ≠ cb := fun e => R.away b _ cb co ce hb rfl hσ (e ▸ hx)
    exact ⟨by rw [hsz]; exact this.1, by rw [hfz, if_neg hne]; exact this.2⟩
  · intro b' o' cb' co' ce' h hrw hs
    simp only [T.get_set] at h
    by_cases e : b' = b
    · subst e; exact R.away b' _ cb' co' ce' hb rfl hs
    · rw [if_neg e] at h; exact R.away b' o' cb' co' ce' h hrw hs
  · obtain ⟨a1, a2, a3, a4⟩ := R.same
    exact ⟨hos.1.trans a1, hos.2.1.trans a2, hos.2.2.trans a3, by rw [hsz]; exact a4⟩
  · simp only [T.get_set] at hg
    by_cases e : b' = b
    · subst e; rw [if_pos rfl] at hg; cases hg; cases hrw
    · rw [if_neg e] at hg; exact R.ro b' o' cb' co' ce' hg hrw hs

theorem copyV_ok [Val] (T : TOk P c) (R : Rel ng pr w0 σ s w) {t rt : Nat} {ts : Array Nat} {x y v : V} {s' : S} {u u' : Value} (h : copyV c s t x y = some (v, s')) (ht : ts[0]? = some t) (hx : VR σ x u) (hy : VR σ y u') :
    ∃ cv w', (Builtin.copy_ ts rt #[u, u']).run P w = .ok cv w' ∧ VR σ v cv ∧ Rel ng pr w0 σ s' w' := by
  unfold copyV at h
  split at h
  case h_2 => cases h
  rename_i i hi
  obtain ⟨info, d, z, h1, h2, h3, h4, h6, h7, h8, h9⟩ := T.at hi
  split at h
  case h_2 => cases h
  rename_i e hk
  rw [hk] at h6; have := kOf_slice h6; subst this
  cases he : c.tt.get e with
  | none => simp [he] at h
  | some ie =>
  simp only [he] at h
  -- the source's length
  have hsrc : ∀ ly, (match y with
      | .nilsl => some 0
      | .sl _ _ len _ _ _ => some len
      | .str l => some l.length
      | _ => none) = some ly → (Builtin.lenOf u').run P w = .ok ly w := by
    intro ly hly
    split at hly
    · cases hly; simp only [VR] at hy; subst hy; rfl
    · cases hly; simp only [VR] at hy; obtain ⟨a, cap', rfl, _⟩ := hy; rfl
    · cases hly; simp only [VR] at hy; obtain ⟨su, rfl, rfl⟩ := hy; rw [nats_length]; rfl
    · cases hly
  split at h
  · rename_i ly hly
    cases h
    simp only [VR] at hx; subst hx
    have hl := hsrc _ hly
    refine ⟨goInt 0, w, ?_, by simp [VR, goInt], R⟩
    have hfc : (Builtin.firstCells ie.size 0 u').run P w = .ok #[] w := by
      split at hly
      · simp only [VR] at hy; subst hy; rfl
      · simp only [VR] at hy; obtain ⟨a, cap', rfl, _⟩ := hy; simp [Builtin.firstCells, loadCells, loadCellsFrom]
      · simp only [VR] at hy; obtain ⟨su, rfl, rfl⟩ := hy
        simp only [Builtin.firstCells, Sem.run_pure]
        congr 1
        apply Array.eq_empty_of_size_eq_zero
        have : (su.extract 0 0).data.size = 0 := by
          have := nats_extract su 0 0
          have h2 : (nats (su.extract 0 0)).length = 0 := by rw [this]; simp
          rw [nats_length] at h2; exact h2
        simp
      · cases hly
    simp only [Builtin.copy_, ht, List.getElem?_toArray, List.getElem?_cons_zero, List.getElem?_cons_succ, Sem.run_bind, run_underlying h2, Result.andThen_ok, hl, run_size T he]
    rw [show Nat.min ly 0 = 0 from Nat.min_zero ly]
    simp [hfc]
  · rename_i b o len cap esz ex ly hly
    have hl := hsrc _ hly
    simp only [VR] at hx
    obtain ⟨a, cap', rfl, hlc, hcc, hex, hadr⟩ := hx
    split at h
    · rename_i hmin
      cases h
      refine ⟨goInt 0, w, ?_, by simp [VR, goInt], R⟩
      have hfc : (Builtin.firstCells ie.size 0 u').run P w = .ok #[] w := by
        split at hly
        · simp only [VR] at hy; subst hy; rfl
        · simp only [VR] at hy; obtain ⟨a, cap', rfl, _⟩ := hy; simp [Builtin.firstCells, loadCells, loadCellsFrom]
        · simp only [VR] at hy; obtain ⟨su, rfl, rfl⟩ := hy
          simp only [Builtin.firstCells, Sem.run_pure]
          congr 1
          apply Array.eq_empty_of_size_eq_zero
          have : (su.extract 0 0).data.size = 0 := by
            have := nats_extract su 0 0
            have h2 : (nats (su.extract 0 0)).length = 0 := by rw [this]; simp
            rw [nats_length] at h2; exact h2
          simp
        · cases hly
      simp only [Builtin.copy_, ht, List.getElem?_toArray, List.getElem?_cons_zero, List.getElem?_cons_succ, Sem.run_bind, run_underlying h2, Result.andThen_ok, hl, run_size T he, hmin, hfc]
      rfl
    · rename_i n hmin
      have hmin' : min ly len = n + 1 := hmin
      rcases hadr with ⟨z1, _⟩ | ⟨cb, co, ce, q1, rfl, q3⟩
      · omega
      have hfc : ∀ cs, (match y with
          | .sl b' o' _ _ _ _ => s.cellsAt b' o' ((n + 1) * ie.size)
          | .str l => cond (Nat.beq ie.size 1) (match takeN (n + 1) l with
            | some l => some (l.map byteV)
            | none => none) none
          | _ => none) = some cs → ∃ arr : Array Value, (Builtin.firstCells ie.size (n + 1) u').run P w = .ok arr w ∧ VRs σ cs arr.toList := by
        intro cs hcs
        split at hcs
        · rename_i b' o' len' cap2 esz2 ex2
          cases hly
          simp only [VR] at hy
          obtain ⟨a, cap'', rfl, _, _, _, hadr⟩ := hy
          rcases hadr with ⟨z1, _⟩ | ⟨cb', co', ce', q1', rfl, q3'⟩
          · omega
          obtain ⟨xs, hx, hr, hl⟩ := R.cells hcs q1'
          exact ⟨xs.toArray, by simp only [Builtin.firstCells]; exact hl P, by simpa using hr⟩
        · rename_i l
          cases h1 : Nat.beq ie.size 1 with
          | false => simp [h1] at hcs
          | true =>
            simp only [h1, cond_true] at hcs
            split at hcs
            case h_2 => cases hcs
            rename_i r hr
            cases hcs
            obtain ⟨t1, t2⟩ := takeN_some _ _ _ hr
            simp only [VR] at hy
            obtain ⟨su, rfl, rfl⟩ := hy
            refine ⟨(su.extract 0 (n + 1)).data.map fun b => Value.int .u8 b.toNat, rfl, ?_⟩
            have := bytes_cells (σ := σ) (su.extract 0 (n + 1))
            rw [nats_extract, List.drop_zero, Nat.sub_zero, ← t1] at this
            exact this
        · cases hcs
      split at h
      case h_2 => cases h
      rename_i cs hcs
      obtain ⟨arr, hf, hvr⟩ := hfc cs hcs
      split at h
      case h_2 => cases h
      rename_i s1 hput
      cases h
      obtain ⟨w', hw', R'⟩ := R.put hput hvr q1
      refine ⟨goInt (n + 1 : Nat), w', ?_, by simp [VR, goInt], R'⟩
      simp only [Builtin.copy_, ht, List.getElem?_toArray, List.getElem?_cons_zero, List.getElem?_cons_succ, Sem.run_bind, run_underlying h2, Result.andThen_ok, hl, run_size T he, hmin, hf, hw' P]
      rfl
  · cases h

theorem clearV_ok [Val] (T : TOk P c) (R : Rel ng pr w0 σ s w) {t rt : Nat} {ts : Array Nat} {x v : V} {s' : S} {u : Value} (h : clearV c s t x = some (v, s')) (ht : ts[0]? = some t) (hx : VR σ x u) :
    ∃ cv w', (Builtin.clear_ ts rt #[u]).run P w = .ok cv w' ∧ VR σ v cv ∧ Rel ng pr w0 σ s' w' := by
  unfold clearV at h
  split at h
  case h_2 => cases h
  rename_i i hi
  obtain ⟨info, d, z, h1, h2, h3, h4, h6, h7, h8, h9⟩ := T.at hi
  split at h
  · rename_i e hk
    rw [hk] at h6; have := kOf_slice h6; subst this
    cases h
    simp only [VR] at hx; subst hx
    refine ⟨.tuple #[], w, ?_, vr_undef, R⟩
    simp only [Builtin.clear_, ht, List.getElem?_toArray, List.getElem?_cons_zero, Sem.run_bind, run_underlying h2, Result.andThen_ok, Sem.run_pure]
  · rename_i e b o len cap esz ex hk
    rw [hk] at h6; have := kOf_slice h6; subst this
    simp only [VR] at hx
    obtain ⟨a, cap', rfl, hlc, hcc, hex, hadr⟩ := hx
    split at h
    · rename_i h0
      have := Nat.eq_of_beq_eq_true h0; subst this
      cases h
      refine ⟨.tuple #[], w, ?_, vr_undef, R⟩
      simp only [Builtin.clear_, ht, List.getElem?_toArray, List.getElem?_cons_zero, Sem.run_bind, run_underlying h2, Result.andThen_ok, Sem.run_pure]
    · rename_i h0
      have h0 := Nat.ne_of_beq_eq_false h0
      cases he : c.tt.get e with
      | none => simp [he] at h
      | some ie =>
      simp only [he] at h
      obtain ⟨info', d', z', g1, g2, g3, g4, g6, g7, g8, g9⟩ := T.at he
      have glen := (T.tt e ie he).len
      split at h
      case h_2 => cases h
      rename_i s1 hput
      cases h
      rcases hadr with ⟨z1, _⟩ | ⟨cb, co, ce, q1, rfl, q3⟩
      · exact absurd z1 h0
      have hz : VRs σ ie.zero z'.cells.toList := (toV_ok g4).cells
      have hzl := hz.length
      simp only [Array.length_toList] at hzl
      have hzz := zeroCells_ok hz len
      rw [hzl] at hzz
      obtain ⟨w', hw', R'⟩ := R.put hput hzz q1
      refine ⟨.tuple #[], w', ?_, vr_undef, R'⟩
      simp only [Builtin.clear_, ht, List.getElem?_toArray, List.getElem?_cons_zero, Sem.run_bind, run_underlying h2, Result.andThen_ok]
      obtain ⟨len, rfl⟩ : ∃ m, len = m + 1 := ⟨len - 1, by omega⟩
      simp only [run_zeroValue g1 g3, Result.andThen_ok, Builtin.zeroCells, hw' P, Sem.run_pure]
  · cases h
theorem bytesOf_eq : ∀ {cs : List V} {l : List Nat}, bytesOf cs = some l → cs = l.map (fun n => V.int .u8 (.ofNat n)) ∧ ∀ n ∈ l, n < 256
  | [], l, h => by simp only [bytesOf, Option.some.injEq] at h; subst h; exact ⟨rfl, fun n hn => by cases hn⟩
  | v :: cs, l, h => by
    unfold bytesOf at h
    split at h
    · rename_i heq; cases heq
    · rename_i n cs' heq
      cases heq
      cases hlt : Nat.blt n 256 with
      | false => simp [hlt] at h
      | true =>
        simp only [hlt, cond_true] at h
        split at h
        case h_2 => cases h
        rename_i r hr
        cases h
        rw [Nat.blt_eq] at hlt
        obtain ⟨e1, e2⟩ := bytesOf_eq hr
        refine ⟨by rw [e1]; rfl, fun m hm => ?_⟩
        cases hm with
        | head => exact hlt
        | tail _ hm => exact e2 m hm
    · cases h
/-- What no live object lies in may turn. -/
theorem Rel.dead [Val] (R : Rel ng pr w0 σ s w) {w' : World} {cb : Nat} (hh : ∀ x, x ≠ cb → w'.heap[x]? = w.heap[x]?) (hs : w'.heap.size = w.heap.size) (ho : w'.os = w.os ∧ w'.output = w.output ∧ w'.tape = w.tape)
    (hl : ∀ b o co ce, s.h.get b = some o → σ b = some (cb, co, ce) → False) (hp : ¬ pr.1 cb) : Rel ng pr w0 σ s w' := by
  refine ⟨fun b o hb => (R.obj b o hb).same fun cb' co ce hσ => hh _ fun e => hl b o co ce hb (e ▸ hσ), R.disj, R.fresh, fun x hx => ?_, R.away, R.glob, ?_, R.ro, R.rolt⟩
  · have := R.prot x hx
    exact ⟨by rw [hs]; exact this.1, by rw [hh x fun e => hp (e ▸ hx)]; exact this.2⟩
  · obtain ⟨a1, a2, a3, a4⟩ := R.same
    exact ⟨ho.1.trans a1, ho.2.1.trans a2, ho.2.2.trans a3, by rw [hs]; exact a4⟩

theorem unsafeStr_ok [Val] (T : TOk P c) (R : Rel ng pr w0 σ s w) {pt it ty : Nat} {p n v : V} {s' : S} {up un : Value} (h : unsafeStrV c s pt p n = some (v, s')) (hp : VR σ p up) (hn : VR σ n un) :
    ∃ cv w', (Builtin.unsafeString_ #[pt, it] ty #[up, un]).run P w = .ok cv w' ∧ VR σ v cv ∧ Rel ng pr w0 σ s' w' := by
  unfold unsafeStrV at h
  split at h
  case h_2 => cases h
  rename_i n
  simp only [VR] at hn
  subst hn
  split at h
  · cases h
    simp only [VR] at hp; subst hp
    exact ⟨_, w, Lib.run_unsafeString_none w pt it ty none, by simp only [VR]; exact ⟨_, rfl, rfl⟩, R⟩
  · cases h
    simp only [VR] at hp
    obtain ⟨cb, co, ce, hσ, rfl⟩ := hp
    exact ⟨_, w, Lib.run_unsafeString_none w pt it ty (some _), by simp only [VR]; exact ⟨_, rfl, rfl⟩, R⟩
  · rename_i m b o
    split at h
    case h_2 => cases h
    rename_i i hi
    obtain ⟨info, d, z, h1, h2, h3, h4, h6, h7, h8, h9⟩ := T.at hi
    split at h
    case h_2 => cases h
    rename_i e hk
    rw [hk] at h6; have := kOf_ptr h6; subst this
    split at h
    case h_2 => cases h
    rename_i ie t wh cs0 cs he hb hcs
    obtain ⟨info', d', z', g1, g2, g3, g4, g6, g7, g8, g9⟩ := T.at he
    split at h
    case h_2 => cases h
    rename_i l hl
    cases hc : (Nat.beq t e && Nat.beq ie.size 1 && Nat.ble (m + 1) 4611686018427387904) with
    | false => simp [hc] at h
    | true =>
    simp only [hc, cond_true, Option.some.injEq, Prod.mk.injEq] at h
    obtain ⟨rfl, rfl⟩ := h
    simp only [Bool.and_eq_true, Nat.beq_eq, Nat.ble_eq] at hc
    obtain ⟨⟨rfl, c2⟩, c3⟩ := hc
    simp only [VR] at hp
    obtain ⟨cb, co, ce, hσ, rfl⟩ := hp
    obtain ⟨_, _, _, cc, el, fr, b1, b2, b3, b4, b5, b6⟩ := R.obj b _ hb
    rw [hσ] at b1; cases b1
    obtain ⟨rfl, _⟩ := (b6 rfl).2.2 _ _ rfl
    have hcell1 : P.cellsOf el = 1 := by simp [Program.cellsOf, g1, g7, c2]
    unfold S.cellsAt at hcs
    rw [hb] at hcs
    simp only [] at hcs
    obtain ⟨s1, s2, s3⟩ := sub_some hcs
    obtain ⟨e1, e2⟩ := bytesOf_eq hl
    have hll : l.length = m + 1 := by rw [e1] at s2; simpa using s2
    let bs : List UInt8 := l.map Nat.toUInt8
    have hbl : bs.length = m + 1 := by simp [bs, hll]
    have hbn : bs.map UInt8.toNat = l := by
      simp only [bs, List.map_map]
      have : ∀ n ∈ l, (UInt8.toNat ∘ Nat.toUInt8) n = n := fun n hn => by
        have := e2 n hn
        simp [Nat.mod_eq_of_lt this]
      calc l.map (UInt8.toNat ∘ Nat.toUInt8) = l.map id := List.map_congr_left this
        _ = l := by simp
    have hcell : ∀ j x, bs[j]? = some x → w.cell? ((⟨cb, co + o, none⟩ : Addr).add j) = some (.int .u8 x.toNat) := by
      intro j x hj
      have hj' : l[j]? = some x.toNat := by rw [← hbn, List.getElem?_map, hj]; rfl
      have hlt : j < m + 1 := by
        rcases Nat.lt_or_ge j bs.length with h' | h'
        · omega
        · simp [List.getElem?_eq_none h'] at hj
      have h1 := sub_get hcs j hlt
      rw [e1, List.getElem?_map, hj'] at h1
      obtain ⟨y, hy, hv⟩ := b5 (o + j) _ h1.symm
      simp only [VR] at hv
      subst hv
      rw [addr_add]
      simp only [World.cell?, b2]
      rw [Nat.add_assoc, hy]
      rfl
    have hreach : co + (o + (m + 1)) ≤ cc.size := by
      rcases s3 with h0 | h0
      · omega
      · omega
    have hlb := Lib.run_loadBytes (P := P) w bs ⟨cb, co + o, none⟩ .empty hcell
    have hlies : liesAt P P.depth el (cc.size / P.cellsOf el) (co + o) el (m + 1) = true := liesAt_row (by rw [hcell1]; simp) (by rw [hcell1]; exact Nat.mod_one _) (by rw [hcell1, Nat.div_one, Nat.div_one]; omega)
    have hsh : w.shape? cb = some (el, cc.size) := by simp [World.shape?, b2]
    refine ⟨.string ⟨bs.toArray⟩, w.freeze ⟨cb, co + o, none⟩ (m + 1), ?_, by simp only [VR]; exact ⟨_, rfl, by simp only [nats]; exact hbn⟩, ?_⟩
    · have hdef : Builtin.unsafeString_ #[pt, it] ty #[.pointer (some ⟨cb, co + o, none⟩), .int .i64 (Int.ofNat (m + 1))] =
          (do
            let n ← asInt (.int .i64 (Int.ofNat (m + 1)))
            if n < 0 then runtimePanic (.error "unsafe.String: len out of range")
            if n > IntKind.i64.max then unsupported (.unsafePointer "String: a length above the largest int")
            if n = 0 then pure (.string .empty)
            else if ← variablesAt ⟨cb, co + o, none⟩ (← elemOf pt) n.toNat then do
              let s ← loadBytes ⟨cb, co + o, none⟩ .empty n.toNat
              freeze ⟨cb, co + o, none⟩ n.toNat
              pure (.string s)
            else unsupported (.unsafePointer "String: not so many bytes at ptr")) := rfl
      rw [hdef]
      have hmax : IntKind.i64.max = 9223372036854775807 := rfl
      rw [hbl] at hlb
      have h0 : ¬ (m : Int) + 1 = 0 := by omega
      have hneg' : ¬ (m : Int) + 1 < 0 := by omega
      have h63' : ¬ (9223372036854775807 : Int) < (m : Int) + 1 := by omega
      simp [hneg', h63', asInt, asIntOf, hmax, h0, variablesAt, hsh, elemOf, run_underlying h2, hlies, hlb]
    · refine (R.del b).dead (cb := cb) (fun x hx => ?_) ?_ ?_ (fun b' o' co' ce' g1 g2 => ?_) (R.away b _ cb co ce hb rfl hσ)
      · unfold World.freeze
        rw [if_neg (by omega)]
        simp only [Array.getElem?_modify]
        rw [if_neg (Ne.symm hx)]
      · unfold World.freeze; rw [if_neg (by omega)]; simp
      · unfold World.freeze; rw [if_neg (by omega)]; exact ⟨rfl, rfl, rfl⟩
      · simp only [Go.Ai.T.get_del] at g1
        by_cases e : b' = b
        · rw [if_pos e] at g1; cases g1
        · rw [if_neg e] at g1
          exact R.disj b b' _ _ cb co ce co' ce' (Ne.symm e) hb g1 rfl hσ g2
  · cases h
end
end Go.Ai
