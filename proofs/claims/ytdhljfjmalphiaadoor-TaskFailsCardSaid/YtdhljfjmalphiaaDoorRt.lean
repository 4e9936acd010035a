/- The code of values: products, mixing, encoding, at the evaluator. -/
import Derived.Test.YtdhljfjmalphiaaDoorLeaf
import Derived.Test.YtdhljfjmalphiaaDoorMake
namespace Go.Ai
/-- A row of n cells. -/
def rowV (n : Nat) (f : Nat → V) : List V := (List.range n).map f
theorem rowV_len (n : Nat) (f : Nat → V) : (rowV n f).length = n := by simp [rowV]
theorem nth_rowV {n : Nat} {f : Nat → V} {i : Nat} (h : i < n) : nth (rowV n f) i = some (f i) := by
  rw [nth_eq]; simp [rowV, h]
theorem upd_ok {α : Type} : ∀ (l : List α) (o : Nat) (vs : List α), o + vs.length ≤ l.length → ∃ r, upd l o vs = some r
  | l, 0, vs, h => by
    induction vs generalizing l with
    | nil => exact ⟨l, by cases l <;> rfl⟩
    | cons v vs ih =>
      cases l with
      | nil => simp at h
      | cons a l =>
        obtain ⟨r, hr⟩ := ih l (by simp at h; omega)
        have : over l vs = some r := by cases l <;> simpa [upd] using hr
        exact ⟨v :: r, by simp [upd, over, this]⟩
  | [], o + 1, vs, h => by simp at h
  | a :: l, o + 1, vs, h => by
    obtain ⟨r, hr⟩ := upd_ok l o vs (by simp at h; omega)
    exact ⟨a :: r, by simp [upd, hr]⟩
theorem upd_rowV {n : Nat} {f : Nat → V} {i : Nat} {v : V} (h : i < n) : upd (rowV n f) i [v] = some (rowV n fun t => if t = i then v else f t) := by
  obtain ⟨r, hr⟩ := upd_ok (rowV n f) i [v] (by rw [rowV_len]; simp; omega)
  obtain ⟨h1, h2, h3⟩ := upd_some _ _ _ _ hr
  rw [hr]
  congr 1
  apply List.ext_getElem?
  intro j
  rw [h3 j]
  simp only [rowV, List.getElem?_map]
  by_cases e : j = i
  · subst e; rw [if_pos (by simp)]; simp [h]
  · rw [if_neg (by simp; omega)]
    by_cases hj : j < n
    · simp [hj, e]
    · simp [hj]
theorem sub_rowV {n m : Nat} {f : Nat → V} {o : Nat} (h : o + m ≤ n) : sub (rowV n f) o m = some (rowV m fun t => f (o + t)) := by
  have key : ∀ (m : Nat) (l : List V), m ≤ l.length → takeN m l = some (l.take m) := by
    intro m
    induction m with
    | zero => intro l _; simp [takeN]
    | succ m ih =>
      intro l hl
      cases l with
      | nil => simp at hl
      | cons a l => simp [takeN, ih l (by simpa using hl)]
  unfold sub
  rw [dropN_eq, key _ _ (by simp [rowV_len]; omega)]
  congr 1
  apply List.ext_getElem?
  intro j
  simp only [rowV, List.getElem?_take, List.getElem?_drop, List.getElem?_map]
  by_cases hj : j < m
  · simp [hj, show o + j < n by omega]
  · simp [hj]
theorem bytesOf_rowV {g : Nat → Nat} (h : ∀ t, g t < 256) (n : Nat) : bytesOf (rowV n fun t => byteV (g t)) = some ((List.range n).map g) := by
  have : ∀ l : List Nat, bytesOf (l.map fun t => byteV (g t)) = some (l.map g) := by
    intro l
    induction l with
    | nil => rfl
    | cons a l ih =>
      have hb : Nat.blt (g a) 256 = true := by rw [Nat.blt_eq]; exact h a
      have : bytesOf (V.int .u8 (.ofNat (g a)) :: l.map fun t => byteV (g t)) = cond (Nat.blt (g a) 256) (match bytesOf (l.map fun t => byteV (g t)) with
        | some r => some (g a :: r)
        | none => none) none := rfl
      rw [ih, hb] at this
      exact this
  exact this _
end Go.Ai
namespace Go.Proofs.YtdhljfjmalphiaaDoor.Tab
open Go.Ai
set_option maxRecDepth 100000

theorem tt28 : tt.get 28 = some ⟨.slice 9, 1, 24, .nilsl, false, false⟩ := by kernel_rfl
theorem tt66 : tt.get 66 = some ⟨.ptr 102, 1, 8, .nil, false, false⟩ := by kernel_rfl
theorem tt104 : tt.get 104 = some ⟨.ptr 98, 1, 8, .nil, false, false⟩ := by kernel_rfl
theorem tt100 : tt.get 100 = some ⟨.slice 110, 1, 24, .nilsl, false, false⟩ := by kernel_rfl
theorem tt110 : tt.get 110 = some ⟨.slice 5, 1, 24, .nilsl, false, false⟩ := by kernel_rfl
noncomputable def z95 : V := .agg (catV [repV 510 (.int .u8 (0))])
noncomputable def z96 : V := .agg (catV [repV 256 (.int .u8 (0))])
noncomputable def z98 : V := .agg (catV [repV 766 (.int .u8 (0))])
noncomputable def z102 : V := match tt.get 102 with | some i => i.zv | none => .nil
theorem tt95 : tt.get 95 = some ⟨.arr 510 5, 510, 510, z95, true, true⟩ := by kernel_rfl
theorem tt96 : tt.get 96 = some ⟨.arr 256 5, 256, 256, z96, true, true⟩ := by kernel_rfl
theorem tt98 : tt.get 98 = some ⟨.struct [(0, 95, 510, false), (510, 96, 256, false)], 766, 766, z98, true, true⟩ := by kernel_rfl
theorem tt102 : tt.get 102 = some ⟨.struct [(0, 3, 1, false), (1, 3, 1, false), (2, 98, 766, false), (768, 100, 1, false)], 769, 808, z102, true, true⟩ := by kernel_rfl

noncomputable def tabN (i : Nat) : Nat := (nth makeL i).getD 0
theorem tab_ok1 : allN (fun i => Nat.blt (tabN i) 256) (List.range 766) = true := by kernel_rfl
theorem tab_ok2 : allN (fun i => Nat.blt (tabN (510 + i)) 255) (List.range 256) = true := by kernel_rfl
theorem tab_byte (i : Nat) : tabN i < 256 := by
  by_cases h : i < 766
  · have := allN_ok tab_ok1 i (by simpa using h)
    rwa [Nat.blt_eq] at this
  · unfold tabN
    have hl : makeL.length = 766 := by kernel_rfl
    rw [nth_eq, List.getElem?_eq_none (by omega)]
    exact Nat.zero_lt_succ _
theorem log_lt {x : Nat} (h : x < 256) : tabN (510 + x) < 255 := by
  have := allN_ok tab_ok2 x (by simpa using h)
  rwa [Nat.blt_eq] at this
noncomputable def mulN (x y : Nat) : Nat := if x = 0 then 0 else if y = 0 then 0 else tabN (tabN (510 + x) + tabN (510 + y))
theorem mulN_byte (x y : Nat) : mulN x y < 256 := by
  unfold mulN
  split
  · omega
  · split
    · omega
    · exact tab_byte _
/-- The field's tables lie there. -/
def FieldAt (s : S) (b o : Nat) : Prop := ∀ i, i < 766 → s.cellAt b (o + i) = some (byteV (tabN i))

end Go.Proofs.YtdhljfjmalphiaaDoor.Tab
