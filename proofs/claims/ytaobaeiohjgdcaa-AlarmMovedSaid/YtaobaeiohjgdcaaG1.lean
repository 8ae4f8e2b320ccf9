/- Plain geometry: what holds at a polygon's corners holds at its places. -/
import Derived.Test.YtaobaeiohjgdcaaD0
namespace Go.Proofs.Ytaobaeiohjgdcaa
open Go
def aff (a b c : Int) (p : Pt) : Int := a * p.1 + b * p.2 + c
theorem seg_x (p q x : Pt) (a b c : Int) : (q.1 - p.1) * aff a b c x = (q.1 - x.1) * aff a b c p + (x.1 - p.1) * aff a b c q + b * crossP p q x := by
  unfold aff crossP cross; grind
theorem seg_y (p q x : Pt) (a b c : Int) : (q.2 - p.2) * aff a b c x = (q.2 - x.2) * aff a b c p + (x.2 - p.2) * aff a b c q - a * crossP p q x := by
  unfold aff crossP cross; grind
theorem bary (p q r x : Pt) (a b c : Int) : crossP p q r * aff a b c x = crossP q r x * aff a b c p + crossP r p x * aff a b c q + crossP p q x * aff a b c r := by
  unfold aff crossP cross; grind
theorem cross_rot (p q r : Pt) : crossP q r p = crossP p q r := by unfold crossP cross; grind
theorem cross_flip (p q r : Pt) : crossP q p r = - crossP p q r := by unfold crossP cross; grind
theorem pos_of_mul {t y : Int} (ht : 0 < t) (h : 0 ≤ t * y) : 0 ≤ y := Int.not_lt.1 fun hy => by
  have := Int.mul_neg_of_pos_of_neg ht hy
  omega
theorem sign_change (c : Nat → Int) : ∀ m : Nat, 0 ≤ c 1 → c (m + 2) ≤ 0 → ∃ i, 1 ≤ i ∧ i ≤ m + 1 ∧ 0 ≤ c i ∧ c (i + 1) ≤ 0
  | 0, h1, h2 => ⟨1, by omega, by omega, h1, h2⟩
  | m + 1, h1, h2 => by
    by_cases h : c (m + 2) ≤ 0
    · obtain ⟨i, a, b, d, e⟩ := sign_change c m h1 h
      exact ⟨i, a, by omega, d, e⟩
    · exact ⟨m + 2, by omega, by omega, by omega, h2⟩
theorem valid_first {ps : List Pt} (h : validB ps = true) {i : Nat} (h0 : 0 < i) (hi : i < ps.length) : cmpPt (gp ps 0) (gp ps i) < 0 := by
  simp only [validB, Bool.and_eq_true, all_iff, v1B, Bool.or_eq_true, decide_eq_true_eq, beq_iff_eq] at h
  rcases (h.1.2 i hi).2 with h | h
  · omega
  · exact h
theorem cmp_lt {p q : Pt} (h : cmpPt p q < 0) : p.1 < q.1 ∨ p.1 = q.1 ∧ p.2 < q.2 := by
  unfold cmpPt cmpP cmpI at h
  split at h <;> split at h <;> (try split at h) <;> omega
theorem valid_side {ps : List Pt} (h : validB ps = true) (h3 : ¬ ps.length < 3) {i : Nat} (hi : i < ps.length) {k : Nat} (hk : k < ps.length) :
    gp ps k = gp ps i ∨ gp ps k = gp ps ((i + 1) % ps.length) ∨ 0 < crossP (gp ps i) (gp ps ((i + 1) % ps.length)) (gp ps k) := by
  simp only [validB, Bool.and_eq_true, Bool.or_eq_true, decide_eq_true_eq, all_iff, v3B, v2B, beq_iff_eq] at h
  rcases h.2 with h | h
  · exact absurd h h3
  · rcases h i hi k hk with (h | h) | h
    · exact .inl h
    · exact .inr (.inl h)
    · exact .inr (.inr h)
theorem len_one {ps : List Pt} (h : validB ps = true) : 1 ≤ ps.length ∧ ps.length ≤ 64 := by simp only [validB, Bool.and_eq_true, decide_eq_true_eq] at h; exact h.1.1
/-- What holds at all corners holds at each place. -/
theorem at_corners {ps : List Pt} (h : validB ps = true) {x : Pt} (hx : hasB ps x = true) (a b c : Int) (hc : ∀ i, i < ps.length → 0 ≤ aff a b c (gp ps i)) : 0 ≤ aff a b c x := by
  have hn := (len_one h).1
  unfold hasB at hx
  split at hx
  · have : gp ps 0 = x := by simpa using hx
    rw [← this]; exact hc 0 (by omega)
  split at hx
  · rename_i h1 h2
    simp only [Bool.and_eq_true, decide_eq_true_eq, betwB] at hx
    obtain ⟨hz, b1, b2, b3, b4⟩ := hx
    have hl := cmp_lt (valid_first h (i := 1) (by omega) (by omega))
    have c0 := hc 0 (by omega)
    have c1 := hc 1 (by omega)
    rcases hl with hl | ⟨he, hl⟩
    · refine pos_of_mul (t := (gp ps 1).1 - (gp ps 0).1) (by omega) ?_
      rw [seg_x, hz]
      have g1 := Int.mul_nonneg (show 0 ≤ (gp ps 1).1 - x.1 by omega) c0
      have g2 := Int.mul_nonneg (show 0 ≤ x.1 - (gp ps 0).1 by omega) c1
      omega
    · refine pos_of_mul (t := (gp ps 1).2 - (gp ps 0).2) (by omega) ?_
      rw [seg_y, hz]
      have g1 := Int.mul_nonneg (show 0 ≤ (gp ps 1).2 - x.2 by omega) c0
      have g2 := Int.mul_nonneg (show 0 ≤ x.2 - (gp ps 0).2 by omega) c1
      omega
  · rename_i h1 h2
    have h3 : ¬ ps.length < 3 := by omega
    have hs : ∀ i, i < ps.length → 0 ≤ crossP (gp ps i) (gp ps ((i + 1) % ps.length)) x := fun i hi => by
      have := all_iff.1 hx i hi
      simpa [sideB] using this
    have s0 := hs 0 (by omega)
    rw [Nat.mod_eq_of_lt (show 0 + 1 < ps.length by omega)] at s0
    have sn := hs (ps.length - 1) (by omega)
    rw [show ps.length - 1 + 1 = ps.length by omega, Nat.mod_self] at sn
    obtain ⟨i, i1, i2, p1, p2⟩ := sign_change (fun i => crossP (gp ps 0) (gp ps i) x) (ps.length - 3) s0 (by
      show crossP (gp ps 0) (gp ps (ps.length - 3 + 2)) x ≤ 0
      rw [show ps.length - 3 + 2 = ps.length - 1 by omega, cross_flip]; omega)
    have hsi := hs i (by omega)
    rw [Nat.mod_eq_of_lt (show i + 1 < ps.length by omega)] at hsi
    have ht : 0 < crossP (gp ps 0) (gp ps i) (gp ps (i + 1)) := by
      have := valid_side h h3 (i := i) (by omega) (k := 0) (by omega)
      rw [Nat.mod_eq_of_lt (show i + 1 < ps.length by omega)] at this
      rcases this with e | e | e
      · exact absurd e.symm (lt_ne (valid_first h (by omega) (by omega)))
      · exact absurd e.symm (lt_ne (valid_first h (by omega) (by omega)))
      · rw [cross_rot] at e; exact e
    refine pos_of_mul ht ?_
    rw [bary]
    have g1 := Int.mul_nonneg hsi (hc 0 (by omega))
    have g2 := Int.mul_nonneg (show 0 ≤ crossP (gp ps (i + 1)) (gp ps 0) x by rw [cross_flip]; omega) (hc i (by omega))
    have g3 := Int.mul_nonneg p1 (hc (i + 1) (by omega))
    omega
theorem cross_aff (p q x : Pt) : crossP p q x = aff (-(q.2 - p.2)) (q.1 - p.1) ((q.2 - p.2) * p.1 - (q.1 - p.1) * p.2) x := by unfold aff crossP cross; grind
theorem cross_aff' (p q x : Pt) : - crossP p q x = aff (q.2 - p.2) (-(q.1 - p.1)) (-((q.2 - p.2) * p.1 - (q.1 - p.1) * p.2)) x := by unfold aff crossP cross; grind
/-- A polygon within another one: its places are there. -/
theorem within_has {p q : List Pt} (hp : validB p = true) (hw : withinB p q = true) {x : Pt} (hx : hasB p x = true) : hasB q x = true := by
  have hq : ∀ i, i < p.length → hasB q (gp p i) = true := fun i hi => List.all_eq_true.1 hw _ (by simp only [gp, List.getD_eq_getElem?_getD, List.getElem?_eq_getElem hi, Option.getD_some]; exact List.getElem_mem hi)
  have lo1 : ∀ m, (∀ i, i < p.length → m ≤ (gp p i).1) → m ≤ x.1 := fun m h => by
    have := at_corners hp hx 1 0 (-m) (fun i hi => by have := h i hi; unfold aff; omega)
    unfold aff at this; omega
  have hi1 : ∀ m, (∀ i, i < p.length → (gp p i).1 ≤ m) → x.1 ≤ m := fun m h => by
    have := at_corners hp hx (-1) 0 m (fun i hi => by have := h i hi; unfold aff; omega)
    unfold aff at this; omega
  have lo2 : ∀ m, (∀ i, i < p.length → m ≤ (gp p i).2) → m ≤ x.2 := fun m h => by
    have := at_corners hp hx 0 1 (-m) (fun i hi => by have := h i hi; unfold aff; omega)
    unfold aff at this; omega
  have hi2 : ∀ m, (∀ i, i < p.length → (gp p i).2 ≤ m) → x.2 ≤ m := fun m h => by
    have := at_corners hp hx 0 (-1) m (fun i hi => by have := h i hi; unfold aff; omega)
    unfold aff at this; omega
  unfold hasB at hq ⊢
  by_cases h1 : q.length = 1
  · rw [if_pos h1] at ⊢
    have e : ∀ i, i < p.length → gp q 0 = gp p i := fun i hi => by have := hq i hi; rw [if_pos h1] at this; simpa using this
    have g1 := lo1 (gp q 0).1 (fun i hi => by rw [e i hi]; exact Int.le_refl _)
    have g2 := hi1 (gp q 0).1 (fun i hi => by rw [e i hi]; exact Int.le_refl _)
    have g3 := lo2 (gp q 0).2 (fun i hi => by rw [e i hi]; exact Int.le_refl _)
    have g4 := hi2 (gp q 0).2 (fun i hi => by rw [e i hi]; exact Int.le_refl _)
    have : gp q 0 = x := Prod.ext (by omega) (by omega)
    simpa using this
  rw [if_neg h1]
  by_cases h2 : q.length = 2
  · rw [if_pos h2]
    have e : ∀ i, i < p.length → crossP (gp q 0) (gp q 1) (gp p i) = 0 ∧ betwB (gp q 0) (gp q 1) (gp p i) = true := fun i hi => by
      have := hq i hi
      rw [if_neg h1, if_pos h2] at this
      simpa using this
    simp only [betwB, decide_eq_true_eq] at e
    simp only [Bool.and_eq_true, decide_eq_true_eq, betwB]
    refine ⟨?_, lo1 _ fun i hi => (e i hi).2.1, hi1 _ fun i hi => (e i hi).2.2.1, lo2 _ fun i hi => (e i hi).2.2.2.1, hi2 _ fun i hi => (e i hi).2.2.2.2⟩
    have u := at_corners hp hx _ _ _ (fun i hi => by rw [← cross_aff (gp q 0) (gp q 1), (e i hi).1]; exact Int.le_refl _)
    have l := at_corners hp hx _ _ _ (fun i hi => by rw [← cross_aff' (gp q 0) (gp q 1), (e i hi).1]; exact Int.le_refl _)
    rw [← cross_aff] at u
    rw [← cross_aff'] at l
    omega
  rw [if_neg h2]
  refine all_true fun k hk => ?_
  simp only [sideB, decide_eq_true_eq]
  rw [cross_aff]
  refine at_corners hp hx _ _ _ fun i hi => ?_
  rw [← cross_aff]
  have := hq i hi
  rw [if_neg h1, if_neg h2] at this
  have := all_iff.1 this k hk
  simpa [sideB] using this
end Go.Proofs.Ytaobaeiohjgdcaa
