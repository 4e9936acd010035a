/- Functions without a body, at the evaluator's call. -/
import Derived.Test.YtdhljfjmalphiaaDoorAiTop
import Derived.Laws.Externs
import Derived.Lib.Bytealg
namespace Go.Ai

/-- A function without a body, and what its entry is. -/
structure ExtIs (P : Program) (f : Nat) (e : Array Value → Sem Value) : Prop where
  ex : ∃ fn, P.funcs[f]? = some fn ∧ (fn.name == "runtime.NumGoroutine") = false ∧ fn.body.isNone = true ∧ Extern.findNext fn = none ∧ Extern.find fn = some e
theorem ExtIs.run {P : Program} {f : Nat} {e : Array Value → Sem Value} (h : ExtIs P f e) {args : Array Value} {w w' : World} {v : Value} (hr : (e args).run P w = .ok v w') : (callFunc f args).run P w = .ok (.value v) w' := by
  obtain ⟨fn, h1, h2, h3, h4, h5⟩ := h.ex
  rw [run_callFunc_extern h1 h2 h3 h4 h5, hr]
  rfl

/-- What is asked of one entry. -/
def ExtFor [Val] (P : Program) (ng : Nat) (f : Nat) (x : List V → S → Option (V × S)) : Prop :=
  ∀ args s v s', x args s = some (v, s') → ∀ (pr : Prt) (w0 : World) (σ : Sg) (w : World) (cargs : Array Value), Rel ng pr w0 σ s w → VRs σ args cargs.toList →
    ∃ cv w' σ', (callFunc f cargs).run P w = .ok (.value cv) w' ∧ VR σ' v cv ∧ Rel ng pr w0 σ' s' w' ∧ Ext σ σ'

section
variable {P : Program} {ng : Nat}
def noEscV (args : List V) (s : S) : Option (V × S) :=
  match args with
  | [x] => some (x, s)
  | _ => none
theorem noEsc_ok [Val] {f : Nat} (h : ExtIs P f Extern.AbiNoEscape.same) : ExtFor P ng f noEscV := by
  intro args s v s' hx pr w0 σ w cargs R hv
  unfold noEscV at hx
  split at hx
  case h_2 => cases hx
  cases hx
  simp only [VRs] at hv
  obtain ⟨y, ys, e, hy, rfl⟩ := hv
  have : cargs = #[y] := by apply Array.ext'; simpa using e
  subst this
  exact ⟨y, w, σ, h.run (Lib.run_noEscape w y), hy, R, Ext.refl σ⟩

def mnzV (e : Nat) (args : List V) (s : S) : Option (V × S) :=
  match args with
  | [.int .i64 (.ofNat n)] => cond (Nat.ble n 281474976710656) (some (.sl s.next 0 n n 1 false, s.new (.cells true (.el e false) []))) none
  | _ => none
theorem mnz_ok [Val] {f t e : Nat} {ps : Array TypeId} (h : ExtIs P f (Extern.BytealgMakeNoZero.makeNoZero ps #[t])) (ht : P.underlying t = some (.slice e)) : ExtFor P ng f (mnzV e) := by
  intro args s v s' hx pr w0 σ w cargs R hv
  unfold mnzV at hx
  split at hx
  case h_2 => cases hx
  rename_i n
  cases hn : Nat.ble n 281474976710656 with
  | false => simp [hn] at hx
  | true =>
  simp only [hn, cond_true, Option.some.injEq, Prod.mk.injEq] at hx
  obtain ⟨rfl, rfl⟩ := hx
  rw [Nat.ble_eq] at hn
  simp only [VRs, VR] at hv
  obtain ⟨y, ys, e1, rfl, rfl⟩ := hv
  have : cargs = #[.int .i64 (Int.ofNat n)] := by apply Array.ext'; simpa using e1
  subst this
  obtain ⟨cs, hr, hle, _⟩ := Lib.run_makeNoZero (P := P) w ps t e ht n hn
  refine ⟨_, _, (fun j => if j = s.next then some (w.heap.size, 0, cs.size) else σ j), h.run hr, ?_, R.newBlock (ob := .cells cs e) rfl rfl ⟨rfl, rfl, rfl⟩ ?_, Ext.set (R.fresh _ (Nat.le_refl _))⟩
  · simp only [VR]
    exact ⟨_, cs.size, rfl, Nat.le_refl _, hle, (fun h => by cases h), .inr ⟨w.heap.size, 0, cs.size, by simp, rfl, by simp⟩⟩
  · refine ⟨w.heap.size, 0, cs.size, cs, e, (0, 0), by simp, ?_, by simp, Nat.le_refl _, fun i x hi => by simp at hi, fun _ => ⟨.inl rfl, fun _ => rfl, fun t wh h => by cases h; exact ⟨rfl, fun h => by cases h⟩⟩⟩
    show (w.heap.push (.cells cs e))[w.heap.size]? = _
    simp

def idxB : List Nat → Nat → Int
  | [], _ => .negSucc 0
  | b :: l, c => cond (Nat.beq b c) (.ofNat 0) (match idxB l c with
    | .ofNat n => .ofNat (n + 1)
    | .negSucc n => .negSucc n)
def cntB : List Nat → Nat → Nat
  | [], _ => 0
  | b :: l, c => cond (Nat.beq b c) (cntB l c + 1) (cntB l c)
theorem byte_eq {b : UInt8} {c : Nat} (hc : c < 256) : (b == c.toUInt8) = Nat.beq b.toNat c := by
  rw [Bool.eq_iff_iff, Nat.beq_eq, beq_iff_eq, ← UInt8.toNat_inj]
  simp [Nat.mod_eq_of_lt hc]
theorem idxB_ok {c : Nat} (hc : c < 256) : ∀ l : List UInt8, idxB (l.map UInt8.toNat) c = Lib.indexByte l c.toUInt8
  | [] => rfl
  | b :: l => by
    have ih := idxB_ok hc l
    have hge := Lib.indexByte_ge l c.toUInt8
    simp only [List.map_cons, idxB, Lib.indexByte, byte_eq hc, ih]
    cases Nat.beq b.toNat c with
    | true => simp
    | false =>
      simp only [cond_false, Bool.false_eq_true, if_false]
      cases hi : Lib.indexByte l c.toUInt8 with
      | ofNat n =>
        rw [if_neg (by simp)]
        simp
      | negSucc n =>
        rw [hi] at hge
        have : n = 0 := by omega
        subst this
        simp
theorem cntB_ok {c : Nat} (hc : c < 256) : ∀ l : List UInt8, cntB (l.map UInt8.toNat) c = Lib.countByte l c.toUInt8
  | [] => rfl
  | b :: l => by
    have ih := cntB_ok hc l
    simp only [List.map_cons, cntB, ih, Lib.countByte, List.count_cons, byte_eq hc]
    cases Nat.beq b.toNat c <;> simp
def idxV (args : List V) (s : S) : Option (V × S) :=
  match args with
  | [.str l, .int .u8 (.ofNat c)] => cond (Nat.blt c 256) (some (.int .i64 (idxB l c), s)) none
  | _ => none
def cntV (args : List V) (s : S) : Option (V × S) :=
  match args with
  | [.str l, .int .u8 (.ofNat c)] => cond (Nat.blt c 256) (some (.int .i64 (.ofNat (cntB l c)), s)) none
  | _ => none
theorem idx_ok [Val] {f : Nat} (h : ExtIs P f Extern.BytealgIndexByte.indexByte) : ExtFor P ng f idxV := by
  intro args s v s' hx pr w0 σ w cargs R hv
  unfold idxV at hx
  split at hx
  case h_2 => cases hx
  rename_i l c
  cases hn : Nat.blt c 256 with
  | false => simp [hn] at hx
  | true =>
  simp only [hn, cond_true, Option.some.injEq, Prod.mk.injEq] at hx
  obtain ⟨rfl, rfl⟩ := hx
  rw [Nat.blt_eq] at hn
  simp only [VRs, VR] at hv
  obtain ⟨y, ys, e1, ⟨su, rfl, rfl⟩, y2, ys2, rfl, rfl, rfl⟩ := hv
  have : cargs = #[.string su, .int .u8 (Int.ofNat c)] := by apply Array.ext'; simpa using e1
  subst this
  exact ⟨_, w, σ, h.run (Lib.run_indexByteString su (Int.ofNat c) w), by simp only [VR, nats]; rw [idxB_ok hn]; rfl, R, Ext.refl σ⟩
theorem cnt_ok [Val] {f : Nat} (h : ExtIs P f Extern.BytealgCount.count) : ExtFor P ng f cntV := by
  intro args s v s' hx pr w0 σ w cargs R hv
  unfold cntV at hx
  split at hx
  case h_2 => cases hx
  rename_i l c
  cases hn : Nat.blt c 256 with
  | false => simp [hn] at hx
  | true =>
  simp only [hn, cond_true, Option.some.injEq, Prod.mk.injEq] at hx
  obtain ⟨rfl, rfl⟩ := hx
  rw [Nat.blt_eq] at hn
  simp only [VRs, VR] at hv
  obtain ⟨y, ys, e1, ⟨su, rfl, rfl⟩, y2, ys2, rfl, rfl, rfl⟩ := hv
  have : cargs = #[.string su, .int .u8 (Int.ofNat c)] := by apply Array.ext'; simpa using e1
  subst this
  exact ⟨_, w, σ, h.run (Lib.run_countString su (Int.ofNat c) w), by simp only [VR, nats]; rw [cntB_ok hn]; rfl, R, Ext.refl σ⟩

/-- The entries together, by their functions' numbers. -/
def ext4 (iNE iMN iIB iCS eB : Nat) : CallF := fun f args s =>
  cond (Nat.beq f iNE) (noEscV args s) (cond (Nat.beq f iMN) (mnzV eB args s) (cond (Nat.beq f iIB) (idxV args s) (cond (Nat.beq f iCS) (cntV args s) none)))
theorem ext4_ok [Val] {c : Ctx} {iNE iMN iIB iCS eB : Nat} (hx : c.ext = ext4 iNE iMN iIB iCS eB) (h1 : ExtFor P c.ng iNE noEscV) (h2 : ExtFor P c.ng iMN (mnzV eB)) (h3 : ExtFor P c.ng iIB idxV) (h4 : ExtFor P c.ng iCS cntV) : ExtOk P c := by
  intro f args s v s' h
  rw [hx] at h
  unfold ext4 at h
  cases e1 : Nat.beq f iNE with
  | true =>
    have := Nat.eq_of_beq_eq_true e1
    subst this
    simp only [e1, cond_true] at h
    exact h1 args s v s' h
  | false =>
  simp only [e1, cond_false] at h
  cases e2 : Nat.beq f iMN with
  | true =>
    have := Nat.eq_of_beq_eq_true e2
    subst this
    simp only [e2, cond_true] at h
    exact h2 args s v s' h
  | false =>
  simp only [e2, cond_false] at h
  cases e3 : Nat.beq f iIB with
  | true =>
    have := Nat.eq_of_beq_eq_true e3
    subst this
    simp only [e3, cond_true] at h
    exact h3 args s v s' h
  | false =>
  simp only [e3, cond_false] at h
  cases e4 : Nat.beq f iCS with
  | true =>
    have := Nat.eq_of_beq_eq_true e4
    subst this
    simp only [e4, cond_true] at h
    exact h4 args s v s' h
  | false =>
  simp only [e4, cond_false] at h
  cases h
end
end Go.Ai
