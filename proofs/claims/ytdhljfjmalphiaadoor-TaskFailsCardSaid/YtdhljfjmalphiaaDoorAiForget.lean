/- What a summary needs: some of a state's blocks forgotten, others told less exactly. -/
import Derived.Test.YtdhljfjmalphiaaDoorAiWalk
namespace Go.Ai
theorem Rel.weaken [Val] {ng : Nat} {pr : Prt} {w0 w : World} {σ : Sg} {s s2 : S} (R : Rel ng pr w0 σ s w) (hn : s2.next = s.next)
    (h : ∀ b o2, s2.h.get b = some o2 → ∃ o, s.h.get b = some o ∧ o.rw = o2.rw ∧ (OR σ w b o → OR σ w b o2)) : Rel ng pr w0 σ s2 w := by
  refine ⟨fun b o2 hb => ?_, fun b b' o o' cb co ce co' ce' hne h1 h2 h3 h4 h5 => ?_, fun b hb => R.fresh b (by omega), R.prot, fun b o cb co ce h1 h2 h3 => ?_, ⟨by rw [hn]; exact R.glob.1, R.glob.2⟩, R.same, fun b o cb co ce h1 h2 h3 => ?_, R.rolt⟩
  · obtain ⟨o, h1, _, h3⟩ := h b o2 hb
    exact h3 (R.obj b o h1)
  · obtain ⟨p, p1, p2, _⟩ := h b o h1
    obtain ⟨p', q1, _, _⟩ := h b' o' h2
    exact R.disj b b' p p' cb co ce co' ce' hne p1 q1 (p2.trans h3) h4 h5
  · obtain ⟨p, p1, p2, _⟩ := h b o h1
    exact R.away b p cb co ce p1 (p2.trans h2) h3
  · obtain ⟨p, p1, p2, _⟩ := h b o h1
    exact R.ro b p cb co ce p1 (p2.trans h2) h3
/-- A row of cells, each told less exactly. -/
theorem OR.cells_weaken [Val] {σ : Sg} {w : World} {b : Nat} {rw : Bool} {tg : Tg} {cs cs2 : List V} (hl : cs2.length = cs.length)
    (hv : ∀ (i : Nat) (x2 : V), cs2[i]? = some x2 → ∃ x : V, cs[i]? = some x ∧ ∀ v, VR σ x v → VR σ x2 v) (h : OR σ w b (.cells rw tg cs)) : OR σ w b (.cells rw tg cs2) := by
  obtain ⟨cb, co, ce, c, el, fr, h1, h2, h3, h4, h5, h6⟩ := h
  refine ⟨cb, co, ce, c, el, fr, h1, h2, by omega, h4, fun i x2 hi => ?_, fun hr => ?_⟩
  · obtain ⟨x, hx, hw⟩ := hv i x2 hi
    obtain ⟨v, k1, k2⟩ := h5 i x hx
    exact ⟨v, k1, hw v k2⟩
  · obtain ⟨k1, k2, k3⟩ := h6 hr
    exact ⟨k1, k2, fun t wh ht => ⟨(k3 t wh ht).1, fun hw => by rw [hl]; exact (k3 t wh ht).2 hw⟩⟩
end Go.Ai
