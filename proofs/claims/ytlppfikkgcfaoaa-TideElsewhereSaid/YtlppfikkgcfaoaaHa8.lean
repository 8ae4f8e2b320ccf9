/- TideElsewhere: a further flow of another block, or another slot, changes no bounds. No conditions beyond the statement's own. -/
import Derived.Test.YtlppfikkgcfaoaaHa7
set_option linter.unusedVariables false
set_option linter.unusedSimpArgs false
/- Plain geometry: the eight-sided hull. -/
namespace Go.Proofs.Ytlppfikkgcfaoaa
open Go
theorem fold_min (g : Pt → Int) : ∀ (l : List Pt) (m : Int), l.foldl (fun a p => min a (g p)) m ≤ m ∧ (∀ y ∈ l, l.foldl (fun a p => min a (g p)) m ≤ g y) ∧ (l.foldl (fun a p => min a (g p)) m = m ∨ ∃ y ∈ l, l.foldl (fun a p => min a (g p)) m = g y)
  | [], m => ⟨Int.le_refl _, by simp, .inl rfl⟩
  | x :: l, m => by
    obtain ⟨h1, h2, h3⟩ := fold_min g l (min m (g x))
    simp only [List.foldl_cons]
    refine ⟨by omega, fun y hy => ?_, ?_⟩
    · rcases List.mem_cons.1 hy with rfl | hy
      · omega
      · exact h2 y hy
    · rcases h3 with h3 | ⟨y, hy, h3⟩
      · rcases Int.le_total m (g x) with h | h
        · exact .inl (by omega)
        · exact .inr ⟨x, by simp, by omega⟩
      · exact .inr ⟨y, List.mem_cons_of_mem _ hy, h3⟩
theorem fold_max (g : Pt → Int) : ∀ (l : List Pt) (m : Int), m ≤ l.foldl (fun a p => max a (g p)) m ∧ (∀ y ∈ l, g y ≤ l.foldl (fun a p => max a (g p)) m) ∧ (l.foldl (fun a p => max a (g p)) m = m ∨ ∃ y ∈ l, l.foldl (fun a p => max a (g p)) m = g y)
  | [], m => ⟨Int.le_refl _, by simp, .inl rfl⟩
  | x :: l, m => by
    obtain ⟨h1, h2, h3⟩ := fold_max g l (max m (g x))
    simp only [List.foldl_cons]
    refine ⟨by omega, fun y hy => ?_, ?_⟩
    · rcases List.mem_cons.1 hy with rfl | hy
      · omega
      · exact h2 y hy
    · rcases h3 with h3 | ⟨y, hy, h3⟩
      · rcases Int.le_total m (g x) with h | h
        · exact .inr ⟨x, by simp, by omega⟩
        · exact .inl (by omega)
      · exact .inr ⟨y, List.mem_cons_of_mem _ hy, h3⟩
theorem lo_spec (g : Pt → Int) {ps : List Pt} (hn : 1 ≤ ps.length) : (∀ y ∈ ps, loB g ps ≤ g y) ∧ ∃ y ∈ ps, loB g ps = g y := by
  obtain ⟨h1, h2, h3⟩ := fold_min g ps (g (gp ps 0))
  refine ⟨h2, ?_⟩
  rcases h3 with h3 | h3
  · exact ⟨_, gp_mem (by omega), h3⟩
  · exact h3
theorem hi_spec (g : Pt → Int) {ps : List Pt} (hn : 1 ≤ ps.length) : (∀ y ∈ ps, g y ≤ hiB g ps) ∧ ∃ y ∈ ps, hiB g ps = g y := by
  obtain ⟨h1, h2, h3⟩ := fold_max g ps (g (gp ps 0))
  refine ⟨h2, ?_⟩
  rcases h3 with h3 | h3
  · exact ⟨_, gp_mem (by omega), h3⟩
  · exact h3
def fX (p : Pt) : Int := p.1
def fY (p : Pt) : Int := p.2
def fS (p : Pt) : Int := p.1 + p.2
def fD (p : Pt) : Int := p.1 - p.2
/-- Eight bounds. -/
structure B8 where
  (a b c d s t u v : Int)
def b8 (p : List Pt) : B8 := ⟨loB fX p, hiB fX p, loB fY p, hiB fY p, loB fS p, hiB fS p, loB fD p, hiB fD p⟩
def B8.has (B : B8) (x : Pt) : Prop := B.a ≤ x.1 ∧ x.1 ≤ B.b ∧ B.c ≤ x.2 ∧ x.2 ≤ B.d ∧ B.s ≤ x.1 + x.2 ∧ x.1 + x.2 ≤ B.t ∧ B.u ≤ x.1 - x.2 ∧ x.1 - x.2 ≤ B.v
/-- The bounds are met. -/
structure B8.Met (B : B8) : Prop where
  a : ∃ x, B.has x ∧ x.1 = B.a
  b : ∃ x, B.has x ∧ x.1 = B.b
  c : ∃ x, B.has x ∧ x.2 = B.c
  d : ∃ x, B.has x ∧ x.2 = B.d
  s : ∃ x, B.has x ∧ x.1 + x.2 = B.s
  t : ∃ x, B.has x ∧ x.1 + x.2 = B.t
  u : ∃ x, B.has x ∧ x.1 - x.2 = B.u
  v : ∃ x, B.has x ∧ x.1 - x.2 = B.v
theorem b8_has {p : List Pt} (hn : 1 ≤ p.length) : ∀ x ∈ p, (b8 p).has x := fun x hx =>
  ⟨(lo_spec fX hn).1 x hx, (hi_spec fX hn).1 x hx, (lo_spec fY hn).1 x hx, (hi_spec fY hn).1 x hx, (lo_spec fS hn).1 x hx, (hi_spec fS hn).1 x hx, (lo_spec fD hn).1 x hx, (hi_spec fD hn).1 x hx⟩
theorem b8_met {p : List Pt} (hn : 1 ≤ p.length) : (b8 p).Met := by
  have h := b8_has hn
  refine ⟨?_, ?_, ?_, ?_, ?_, ?_, ?_, ?_⟩
  · obtain ⟨y, hy, e⟩ := (lo_spec fX hn).2; exact ⟨y, h y hy, e.symm⟩
  · obtain ⟨y, hy, e⟩ := (hi_spec fX hn).2; exact ⟨y, h y hy, e.symm⟩
  · obtain ⟨y, hy, e⟩ := (lo_spec fY hn).2; exact ⟨y, h y hy, e.symm⟩
  · obtain ⟨y, hy, e⟩ := (hi_spec fY hn).2; exact ⟨y, h y hy, e.symm⟩
  · obtain ⟨y, hy, e⟩ := (lo_spec fS hn).2; exact ⟨y, h y hy, e.symm⟩
  · obtain ⟨y, hy, e⟩ := (hi_spec fS hn).2; exact ⟨y, h y hy, e.symm⟩
  · obtain ⟨y, hy, e⟩ := (lo_spec fD hn).2; exact ⟨y, h y hy, e.symm⟩
  · obtain ⟨y, hy, e⟩ := (hi_spec fD hn).2; exact ⟨y, h y hy, e.symm⟩
/-- The corners of the eight sides. -/
def B8.pts (B : B8) : List Pt := [(B.a, B.s - B.a), (B.a, B.a - B.u), (B.b, B.b - B.v), (B.b, B.t - B.b), (B.s - B.c, B.c), (B.c + B.v, B.c), (B.d + B.u, B.d), (B.t - B.d, B.d)]
/-- The same, as the program reckons them. -/
def B8.ptsP (B : B8) : List Pt := [(B.a, max (max B.c (B.s - B.a)) (B.a - B.v)), (B.a, min (min B.d (B.t - B.a)) (B.a - B.u)), (B.b, max (max B.c (B.s - B.b)) (B.b - B.v)), (B.b, min (min B.d (B.t - B.b)) (B.b - B.u)),
  (max (max B.a (B.s - B.c)) (B.c + B.u), B.c), (min (min B.b (B.t - B.c)) (B.c + B.v), B.c), (max (max B.a (B.s - B.d)) (B.d + B.u), B.d), (min (min B.b (B.t - B.d)) (B.d + B.v), B.d)]
/-- What the bounds say of one another. -/
structure B8.In (B : B8) : Prop where
  h1 : B.a ≤ B.b ∧ B.c ≤ B.d ∧ B.s ≤ B.t ∧ B.u ≤ B.v
  h2 : B.a + B.c ≤ B.s ∧ 2 * B.a ≤ B.s + B.v ∧ B.s ≤ B.a + B.d
  h3 : B.a ≤ B.d + B.u ∧ 2 * B.a ≤ B.t + B.u ∧ B.c ≤ B.a - B.u
  h4 : B.c + B.v ≤ B.b ∧ B.s + B.v ≤ 2 * B.b ∧ B.b - B.v ≤ B.d
  h5 : B.t - B.d ≤ B.b ∧ B.t + B.u ≤ 2 * B.b ∧ B.b + B.c ≤ B.t
  h6 : 2 * B.c ≤ B.s - B.u ∧ B.s - B.c ≤ B.b
  h7 : 2 * B.c ≤ B.t - B.v ∧ B.a ≤ B.c + B.v
  h8 : B.s - B.u ≤ 2 * B.d ∧ B.d + B.u ≤ B.b
  h9 : B.t - B.v ≤ 2 * B.d ∧ B.a ≤ B.t - B.d
  h10 : B.s + B.u ≤ 2 * B.a ∧ 2 * B.b ≤ B.t + B.v
  h11 : B.s - B.v ≤ 2 * B.c ∧ 2 * B.d ≤ B.t - B.u
theorem B8.Met.in {B : B8} (h : B.Met) : B.In := by
  obtain ⟨⟨xa, ha, ea⟩, ⟨xb, hb, eb⟩, ⟨xc, hc, ec⟩, ⟨xd, hd, ed⟩, ⟨xs, hs, es⟩, ⟨xt, ht, et⟩, ⟨xu, hu, eu⟩, ⟨xv, hv, ev⟩⟩ := h
  unfold B8.has at *
  constructor <;> omega
theorem B8.In.eq {B : B8} (h : B.In) : B.ptsP = B.pts := by
  obtain ⟨h1, h2, h3, h4, h5, h6, h7, h8, h9, h10, h11⟩ := h
  unfold B8.ptsP B8.pts
  have e1 : max (max B.c (B.s - B.a)) (B.a - B.v) = B.s - B.a := by omega
  have e2 : min (min B.d (B.t - B.a)) (B.a - B.u) = B.a - B.u := by omega
  have e3 : max (max B.c (B.s - B.b)) (B.b - B.v) = B.b - B.v := by omega
  have e4 : min (min B.d (B.t - B.b)) (B.b - B.u) = B.t - B.b := by omega
  have e5 : max (max B.a (B.s - B.c)) (B.c + B.u) = B.s - B.c := by omega
  have e6 : min (min B.b (B.t - B.c)) (B.c + B.v) = B.c + B.v := by omega
  have e7 : max (max B.a (B.s - B.d)) (B.d + B.u) = B.d + B.u := by omega
  have e8 : min (min B.b (B.t - B.d)) (B.d + B.v) = B.t - B.d := by omega
  rw [e1, e2, e3, e4, e5, e6, e7, e8]
theorem B8.In.pts_has {B : B8} (h : B.In) : ∀ x ∈ B.pts, B.has x := by
  obtain ⟨h1, h2, h3, h4, h5, h6, h7, h8, h9, h10, h11⟩ := h
  intro x hx
  unfold B8.pts at hx
  simp only [List.mem_cons, List.not_mem_nil, or_false] at hx
  unfold B8.has
  rcases hx with rfl | rfl | rfl | rfl | rfl | rfl | rfl | rfl <;> (simp only; omega)
/-- What holds at the corners holds within the bounds. -/
theorem B8.lin {B : B8} {x : Pt} (hx : B.has x) (α β γ : Int) (h : ∀ y ∈ B.pts, 0 ≤ aff α β γ y) : 0 ≤ aff α β γ x := by
  obtain ⟨g1, g2, g3, g4, g5, g6, g7, g8⟩ := hx
  have P := fun (y : Pt) (hy : y ∈ B.pts) => h y hy
  unfold B8.pts at P
  have p1 := P (B.a, B.s - B.a) (by simp)
  have p2 := P (B.a, B.a - B.u) (by simp)
  have p3 := P (B.b, B.b - B.v) (by simp)
  have p4 := P (B.b, B.t - B.b) (by simp)
  have p5 := P (B.s - B.c, B.c) (by simp)
  have p6 := P (B.c + B.v, B.c) (by simp)
  have p7 := P (B.d + B.u, B.d) (by simp)
  have p8 := P (B.t - B.d, B.d) (by simp)
  clear P h
  obtain ⟨a, b, c, d, s, t, u, v⟩ := B
  simp only at *
  unfold aff at *
  simp only at *
  have m : ∀ k z : Int, 0 ≤ k → 0 ≤ z → 0 ≤ k * z := fun k z h1 h2 => Int.mul_nonneg h1 h2
  rcases Int.le_total 0 α with ha | ha <;> rcases Int.le_total 0 β with hb | hb
  · rcases Int.le_total β α with hc | hc
    · have e : α * x.1 + β * x.2 = α * a + β * (s - a) + (α - β) * (x.1 - a) + β * (x.1 + x.2 - s) := by grind
      have := m (α - β) (x.1 - a) (by omega) (by omega)
      have := m β (x.1 + x.2 - s) hb (by omega)
      omega
    · have e : α * x.1 + β * x.2 = α * (s - c) + β * c + (β - α) * (x.2 - c) + α * (x.1 + x.2 - s) := by grind
      have := m (β - α) (x.2 - c) (by omega) (by omega)
      have := m α (x.1 + x.2 - s) ha (by omega)
      omega
  · rcases Int.le_total (-β) α with hc | hc
    · have e : α * x.1 + β * x.2 = α * a + β * (a - u) + (α + β) * (x.1 - a) + (-β) * (x.1 - x.2 - u) := by grind
      have := m (α + β) (x.1 - a) (by omega) (by omega)
      have := m (-β) (x.1 - x.2 - u) (by omega) (by omega)
      omega
    · have e : α * x.1 + β * x.2 = α * (d + u) + β * d + (-β - α) * (d - x.2) + α * (x.1 - x.2 - u) := by grind
      have := m (-β - α) (d - x.2) (by omega) (by omega)
      have := m α (x.1 - x.2 - u) ha (by omega)
      omega
  · rcases Int.le_total β (-α) with hc | hc
    · have e : α * x.1 + β * x.2 = α * b + β * (b - v) + (-α - β) * (b - x.1) + β * (v - (x.1 - x.2)) := by grind
      have := m (-α - β) (b - x.1) (by omega) (by omega)
      have := m β (v - (x.1 - x.2)) hb (by omega)
      omega
    · have e : α * x.1 + β * x.2 = α * (c + v) + β * c + (β + α) * (x.2 - c) + (-α) * (v - (x.1 - x.2)) := by grind
      have := m (β + α) (x.2 - c) (by omega) (by omega)
      have := m (-α) (v - (x.1 - x.2)) (by omega) (by omega)
      omega
  · rcases Int.le_total (-β) (-α) with hc | hc
    · have e : α * x.1 + β * x.2 = α * b + β * (t - b) + (β - α) * (b - x.1) + (-β) * (t - (x.1 + x.2)) := by grind
      have := m (β - α) (b - x.1) (by omega) (by omega)
      have := m (-β) (t - (x.1 + x.2)) (by omega) (by omega)
      omega
    · have e : α * x.1 + β * x.2 = α * (t - d) + β * d + (α - β) * (d - x.2) + (-α) * (t - (x.1 + x.2)) := by grind
      have := m (α - β) (d - x.2) (by omega) (by omega)
      have := m (-α) (t - (x.1 + x.2)) (by omega) (by omega)
      omega
/-- What is bounded by all corners' linear forms is in the hull. -/
theorem hl_lin {S q : List Pt} (h : Hl S q) {x : Pt} (hx : ∀ α β γ : Int, (∀ y ∈ S, 0 ≤ aff α β γ y) → 0 ≤ aff α β γ x) : hasB q x = true := by
  cases h with
  | one a hq hS ha =>
    subst hq
    have e1 := hx 1 0 (-a.1) (fun y hy => by rw [hS y hy]; unfold aff; omega)
    have e2 := hx (-1) 0 a.1 (fun y hy => by rw [hS y hy]; unfold aff; omega)
    have e3 := hx 0 1 (-a.2) (fun y hy => by rw [hS y hy]; unfold aff; omega)
    have e4 := hx 0 (-1) a.2 (fun y hy => by rw [hS y hy]; unfold aff; omega)
    unfold aff at e1 e2 e3 e4
    have : a = x := Prod.ext (by omega) (by omega)
    simp [hasB, gp, this]
  | many h =>
    have hn := h.two
    have cr : ∀ i, i < q.length → 0 ≤ crossP (gp q i) (gp q ((i + 1) % q.length)) x := fun i hi => by
      have := hx _ _ _ (fun y hy => by
        rw [← cross_aff (gp q i) (gp q ((i + 1) % q.length))]
        rcases (h.side i hi).2.2.2 y hy with g | ⟨g, _⟩ <;> omega)
      rw [← cross_aff] at this
      exact this
    unfold hasB
    rw [if_neg (by omega)]
    by_cases h2 : q.length = 2
    · rw [if_pos h2]
      have c0 := cr 0 (by omega)
      have c1 := cr 1 (by omega)
      rw [h2] at c0 c1
      have e1 : crossP (gp q 1) (gp q ((1 + 1) % 2)) x = - crossP (gp q 0) (gp q 1) x := cross_flip _ _ _
      rw [e1] at c1
      have e0 : crossP (gp q 0) (gp q ((0 + 1) % 2)) x = crossP (gp q 0) (gp q 1) x := rfl
      rw [e0] at c0
      have hz : crossP (gp q 0) (gp q 1) x = 0 := by omega
      simp only [Bool.and_eq_true, decide_eq_true_eq]
      refine ⟨hz, ?_⟩
      have hs : ∀ y ∈ S, betwB (gp q 0) (gp q 1) y = true := fun y hy => by
        have s0 := (h.side 0 (by omega)).2.2.2 y hy
        have s1 := (h.side 1 (by omega)).2.2.2 y hy
        rw [h2] at s0 s1
        have e1 : crossP (gp q 1) (gp q ((1 + 1) % 2)) y = - crossP (gp q 0) (gp q 1) y := cross_flip _ _ _
        have e0 : crossP (gp q 0) (gp q ((0 + 1) % 2)) y = crossP (gp q 0) (gp q 1) y := rfl
        rw [e1] at s1
        rw [e0] at s0
        rcases s0 with s0 | ⟨s0, b0⟩
        · rcases s1 with s1 | ⟨s1, _⟩ <;> omega
        · exact b0
      generalize gp q 0 = a at *
      generalize gp q 1 = b at *
      have d1 : ∀ m : Int, (∀ y ∈ S, m ≤ y.1) → m ≤ x.1 := fun m hm => by
        have := hx 1 0 (-m) (fun y hy => by have := hm y hy; unfold aff; omega)
        unfold aff at this; omega
      have d2 : ∀ m : Int, (∀ y ∈ S, y.1 ≤ m) → x.1 ≤ m := fun m hm => by
        have := hx (-1) 0 m (fun y hy => by have := hm y hy; unfold aff; omega)
        unfold aff at this; omega
      have d3 : ∀ m : Int, (∀ y ∈ S, m ≤ y.2) → m ≤ x.2 := fun m hm => by
        have := hx 0 1 (-m) (fun y hy => by have := hm y hy; unfold aff; omega)
        unfold aff at this; omega
      have d4 : ∀ m : Int, (∀ y ∈ S, y.2 ≤ m) → x.2 ≤ m := fun m hm => by
        have := hx 0 (-1) m (fun y hy => by have := hm y hy; unfold aff; omega)
        unfold aff at this; omega
      simp only [betwB, decide_eq_true_eq] at hs ⊢
      exact ⟨d1 _ fun y hy => (hs y hy).1, d2 _ fun y hy => (hs y hy).2.1, d3 _ fun y hy => (hs y hy).2.2.1, d4 _ fun y hy => (hs y hy).2.2.2⟩
    · rw [if_neg h2]
      exact all_true fun i hi => decide_eq_true (cr i hi)
/-- The eight-sided hull. -/
def eightP (p : List Pt) : List Pt := aroundP (b8 p).ptsP
theorem hl_len {S q : List Pt} (h : Hl S q) : q.length ≤ S.length := by
  have hnd : q.Nodup := by
    cases h with
    | one a hq => subst hq; simp
    | many h =>
      show q.Pairwise _
      rw [List.pairwise_iff_getElem]
      intro i j hi hj hij e
      refine h.inj i j hij hj ?_
      simp [gp, List.getD_eq_getElem?_getD, List.getElem?_eq_getElem hi, List.getElem?_eq_getElem hj, e]
  have := sum_sub (fun _ : Pt => (1 : Int)) hnd h.sub (fun _ _ => by decide)
  have e : ∀ l : List Pt, (l.map fun _ => (1 : Int)).sum = l.length := fun l => by
    induction l with
    | nil => rfl
    | cons a l ih => simp only [List.map_cons, List.sum_cons, ih, List.length_cons]; omega
  rw [e, e] at this
  omega
theorem eight_spec {p : List Pt} (hv : validB p = true) : Hl (b8 p).pts (eightP p) ∧ validB (eightP p) = true ∧ (eightP p).length ≤ 8 ∧ b8 (eightP p) = b8 p ∧ (∀ x ∈ (b8 p).pts, placeB x = true) ∧ ∀ x, (b8 p).has x → hasB (eightP p) x = true := by
  have hn := (len_one hv).1
  have hm := b8_met hn
  have hi := hm.in
  have hpts := hi.pts_has
  have hh : Hl (b8 p).pts (eightP p) := by
    unfold eightP
    rw [hi.eq]
    exact around_hl (by simp [B8.pts])
  have hpl : ∀ x ∈ (b8 p).pts, placeB x = true := fun x hx => by
    obtain ⟨⟨xa, ka, ea⟩, ⟨xb, kb, eb⟩, ⟨xc, kc, ec⟩, ⟨xd, kd, ed⟩, _⟩ := hm
    have hx := hpts x hx
    have bd : ∀ y ∈ p, -500000 ≤ y.1 ∧ y.1 ≤ 500000 ∧ -500000 ≤ y.2 ∧ y.2 ≤ 500000 := fun y hy => by
      obtain ⟨i, hi, rfl⟩ := mem_gp hy
      exact place_bd (valid_place hv hi)
    obtain ⟨y1, m1, e1⟩ := (lo_spec fX hn).2
    obtain ⟨y2, m2, e2⟩ := (hi_spec fX hn).2
    obtain ⟨y3, m3, e3⟩ := (lo_spec fY hn).2
    obtain ⟨y4, m4, e4⟩ := (hi_spec fY hn).2
    have b1 := bd y1 m1
    have b2 := bd y2 m2
    have b3 := bd y3 m3
    have b4 := bd y4 m4
    unfold fX at e1 e2
    unfold fY at e3 e4
    have f1 : (b8 p).a = y1.1 := e1
    have f2 : (b8 p).b = y2.1 := e2
    have f3 : (b8 p).c = y3.2 := e3
    have f4 : (b8 p).d = y4.2 := e4
    unfold B8.has at hx
    simp only [placeB, isCb, Bool.and_eq_true, decide_eq_true_eq]
    omega
  have h8 : (eightP p).length ≤ 8 := hl_len hh
  have hval : validB (eightP p) = true := hh.valid hpl (by omega)
  refine ⟨hh, hval, h8, ?_, hpl, fun x hx => hl_lin hh fun α β γ h => B8.lin hx α β γ h⟩
  have hq := (len_one hval).1
  have lo : ∀ (α β : Int) (g : Pt → Int), (∀ y, g y = α * y.1 + β * y.2) → ∀ m, (∀ y ∈ (b8 p).pts, m ≤ g y) → (∃ y ∈ (b8 p).pts, g y = m) → loB g (eightP p) = m := by
    intro α β g hg m h1 ⟨y, hy, e⟩
    obtain ⟨l1, z, hz, l2⟩ := lo_spec g hq
    refine Int.le_antisymm ?_ (by rw [l2]; exact h1 z (hh.sub z hz))
    have := at_corners hval (hh.has hy) α β (- loB g (eightP p)) (fun i hi => by
      have := l1 _ (gp_mem hi)
      rw [hg] at this
      unfold aff; omega)
    unfold aff at this
    rw [hg] at e
    omega
  have hi' : ∀ (α β : Int) (g : Pt → Int), (∀ y, g y = α * y.1 + β * y.2) → ∀ m, (∀ y ∈ (b8 p).pts, g y ≤ m) → (∃ y ∈ (b8 p).pts, g y = m) → hiB g (eightP p) = m := by
    intro α β g hg m h1 ⟨y, hy, e⟩
    obtain ⟨l1, z, hz, l2⟩ := hi_spec g hq
    refine Int.le_antisymm (by rw [l2]; exact h1 z (hh.sub z hz)) ?_
    have := at_corners hval (hh.has hy) (-α) (-β) (hiB g (eightP p)) (fun i hi => by
      have := l1 _ (gp_mem hi)
      rw [hg] at this
      unfold aff
      rw [Int.neg_mul, Int.neg_mul]; omega)
    unfold aff at this
    rw [Int.neg_mul, Int.neg_mul] at this
    rw [hg] at e
    omega
  have q := fun y hy => hpts y hy
  have c1 := lo 1 0 fX (fun y => by unfold fX; omega) (b8 p).a (fun y hy => (q y hy).1) ⟨((b8 p).a, (b8 p).s - (b8 p).a), by simp [B8.pts], rfl⟩
  have c2 := hi' 1 0 fX (fun y => by unfold fX; omega) (b8 p).b (fun y hy => (q y hy).2.1) ⟨((b8 p).b, (b8 p).b - (b8 p).v), by simp [B8.pts], rfl⟩
  have c3 := lo 0 1 fY (fun y => by unfold fY; omega) (b8 p).c (fun y hy => (q y hy).2.2.1) ⟨((b8 p).s - (b8 p).c, (b8 p).c), by simp [B8.pts], rfl⟩
  have c4 := hi' 0 1 fY (fun y => by unfold fY; omega) (b8 p).d (fun y hy => (q y hy).2.2.2.1) ⟨((b8 p).d + (b8 p).u, (b8 p).d), by simp [B8.pts], rfl⟩
  have c5 := lo 1 1 fS (fun y => by unfold fS; omega) (b8 p).s (fun y hy => (q y hy).2.2.2.2.1) ⟨((b8 p).a, (b8 p).s - (b8 p).a), by simp [B8.pts], by unfold fS; simp only; omega⟩
  have c6 := hi' 1 1 fS (fun y => by unfold fS; omega) (b8 p).t (fun y hy => (q y hy).2.2.2.2.2.1) ⟨((b8 p).b, (b8 p).t - (b8 p).b), by simp [B8.pts], by unfold fS; simp only; omega⟩
  have c7 := lo 1 (-1) fD (fun y => by unfold fD; omega) (b8 p).u (fun y hy => (q y hy).2.2.2.2.2.2.1) ⟨((b8 p).a, (b8 p).a - (b8 p).u), by simp [B8.pts], by unfold fD; simp only; omega⟩
  have c8 := hi' 1 (-1) fD (fun y => by unfold fD; omega) (b8 p).v (fun y hy => (q y hy).2.2.2.2.2.2.2) ⟨((b8 p).b, (b8 p).b - (b8 p).v), by simp [B8.pts], by unfold fD; simp only; omega⟩
  show (⟨loB fX (eightP p), hiB fX (eightP p), loB fY (eightP p), hiB fY (eightP p), loB fS (eightP p), hiB fS (eightP p), loB fD (eightP p), hiB fD (eightP p)⟩ : B8) = _
  rw [c1, c2, c3, c4, c5, c6, c7, c8]
/-- The places of a polygon are within its bounds. -/
theorem has_b8 {p : List Pt} (hv : validB p = true) {x : Pt} (hx : hasB p x = true) : (b8 p).has x := by
  have hn := (len_one hv).1
  have h := fun i (hi : i < p.length) => b8_has hn (gp p i) (gp_mem hi)
  have e1 := at_corners hv hx 1 0 (-(b8 p).a) (fun i hi => by have := h i hi; unfold B8.has at this; unfold aff; omega)
  have e2 := at_corners hv hx (-1) 0 (b8 p).b (fun i hi => by have := h i hi; unfold B8.has at this; unfold aff; omega)
  have e3 := at_corners hv hx 0 1 (-(b8 p).c) (fun i hi => by have := h i hi; unfold B8.has at this; unfold aff; omega)
  have e4 := at_corners hv hx 0 (-1) (b8 p).d (fun i hi => by have := h i hi; unfold B8.has at this; unfold aff; omega)
  have e5 := at_corners hv hx 1 1 (-(b8 p).s) (fun i hi => by have := h i hi; unfold B8.has at this; unfold aff; omega)
  have e6 := at_corners hv hx (-1) (-1) (b8 p).t (fun i hi => by have := h i hi; unfold B8.has at this; unfold aff; omega)
  have e7 := at_corners hv hx 1 (-1) (-(b8 p).u) (fun i hi => by have := h i hi; unfold B8.has at this; unfold aff; omega)
  have e8 := at_corners hv hx (-1) 1 (b8 p).v (fun i hi => by have := h i hi; unfold B8.has at this; unfold aff; omega)
  unfold aff at e1 e2 e3 e4 e5 e6 e7 e8
  unfold B8.has
  omega
end Go.Proofs.Ytlppfikkgcfaoaa

/- Contract: hull.Eight. -/
namespace Go.Proofs.Ytlppfikkgcfaoaa
open Go Go.V Go.RowKit
theorem Eight1_fn (p : Pt) (M : Mem) (h : isC p.1 ∧ isC p.2) : FnP Try.prog 103 [ptv p] M [.int .i64 (fS p)] := by
  unfold isC at h
  refine Fn.of_vc cxOK Try.func103 rfl rfl rfl ?_
  repeat (first | refine VIf.tt ?_ | refine VIf.ff ?_)
  refine VArith.ok (by first | omega | (simp only; omega)) (by first | omega | (simp only; omega)) ?_
  repeat (first | refine VIf.tt ?_ | refine VIf.ff ?_)
  exact VFact.mk ⟨rfl, rfl⟩ trivial
theorem Eight2_fn (p : Pt) (M : Mem) (h : isC p.1 ∧ isC p.2) : FnP Try.prog 104 [ptv p] M [.int .i64 (fD p)] := by
  unfold isC at h
  refine Fn.of_vc cxOK Try.func104 rfl rfl rfl ?_
  repeat (first | refine VIf.tt ?_ | refine VIf.ff ?_)
  refine VArith.ok (by first | omega | (simp only; omega)) (by first | omega | (simp only; omega)) ?_
  repeat (first | refine VIf.tt ?_ | refine VIf.ff ?_)
  exact VFact.mk ⟨rfl, rfl⟩ trivial
theorem b8_bd {p : List Pt} (hv : validB p = true) : (-500000 ≤ (b8 p).a ∧ (b8 p).b ≤ 500000 ∧ -500000 ≤ (b8 p).c ∧ (b8 p).d ≤ 500000) ∧ (b8 p).In := by
  have hn := (len_one hv).1
  have bd : ∀ y ∈ p, -500000 ≤ y.1 ∧ y.1 ≤ 500000 ∧ -500000 ≤ y.2 ∧ y.2 ≤ 500000 := fun y hy => by
    obtain ⟨i, hi, rfl⟩ := mem_gp hy
    exact place_bd (valid_place hv hi)
  obtain ⟨y1, m1, e1⟩ := (lo_spec fX hn).2
  obtain ⟨y2, m2, e2⟩ := (hi_spec fX hn).2
  obtain ⟨y3, m3, e3⟩ := (lo_spec fY hn).2
  obtain ⟨y4, m4, e4⟩ := (hi_spec fY hn).2
  have b1 := bd y1 m1
  have b2 := bd y2 m2
  have b3 := bd y3 m3
  have b4 := bd y4 m4
  unfold fX at e1 e2
  unfold fY at e3 e4
  have f1 : (b8 p).a = y1.1 := e1
  have f2 : (b8 p).b = y2.1 := e2
  have f3 : (b8 p).c = y3.2 := e3
  have f4 : (b8 p).d = y4.2 := e4
  exact ⟨by omega, (b8_met hn).in⟩
theorem cells_app2 (l : List Pt) (p q : Pt) : cellsP (l ++ [p, q]) = cellsP l ++ ([.int .i64 p.1, .int .i64 p.2] ++ ([.int .i64 q.1, .int .i64 q.2] ++ [])) := by simp [cellsP]
theorem eight_x (B : B8) {i : Nat} (h : i < 2) : ∃ x, ([.int .i64 B.a, .int .i64 B.b] : List Value)[i]? = some (.int .i64 x) ∧ (x = B.a ∨ x = B.b) ∧
    B.ptsP.take (2 * (i + 1)) = B.ptsP.take (2 * i) ++ [(x, [B.s - x, x - B.v].foldl max B.c), (x, [B.t - x, x - B.u].foldl min B.d)] := by
  have : i = 0 ∨ i = 1 := by omega
  rcases this with rfl | rfl
  · exact ⟨B.a, rfl, .inl rfl, rfl⟩
  · exact ⟨B.b, rfl, .inr rfl, rfl⟩
theorem eight_y (B : B8) {i : Nat} (h : i < 2) : ∃ x, ([.int .i64 B.c, .int .i64 B.d] : List Value)[i]? = some (.int .i64 x) ∧ (x = B.c ∨ x = B.d) ∧
    B.ptsP.take (4 + 2 * (i + 1)) = B.ptsP.take (4 + 2 * i) ++ [([B.s - x, x + B.u].foldl max B.a, x), ([B.t - x, x + B.v].foldl min B.b, x)] := by
  have : i = 0 ∨ i = 1 := by omega
  rcases this with rfl | rfl
  · exact ⟨B.c, rfl, .inl rfl, rfl⟩
  · exact ⟨B.d, rfl, .inr rfl, rfl⟩
set_option maxHeartbeats 1000000 in
theorem Eight_fn (v : Value) (ps : List Pt) (M : Mem) (hv : Pts M v ps) (h64 : i64P ps) : V.Fn Try.prog 75 [v] M fun rs M' => if validB ps = true then ∃ u, rs = [u, .int .i64 0] ∧ Pts M' u (eightP ps) else rs = [.slice none 0 0, .int .i64 1] := by
  refine Fn.of_vc cxOK Try.func75 rfl rfl rfl ?_
  obtain ⟨ad, c, rfl⟩ := hv.shape
  repeat (first | refine VIf.tt ?_ | refine VIf.ff ?_)
  refine VFn.mk _ (Box_fn _ ps M hv h64) ?_
  rintro rs M1 hM1 hr
  by_cases hV : validB ps = true
  rotate_left
  · rw [if_neg hV] at hr
    subst hr
    repeat (first | refine VIf.tt ?_ | refine VIf.ff ?_)
    refine VFact.mk ?_ trivial
    show if _ then _ else _
    rw [if_neg hV]
  rw [if_pos hV] at hr
  subst hr
  have hn := len_one hV
  have hC : ∀ k, k < ps.length → isC (gp ps k).1 ∧ isC (gp ps k).2 := fun k hk => all_isC (List.all_eq_true.2 fun p hp => by
    obtain ⟨i, hi, rfl⟩ := mem_gp hp
    exact valid_place hV hi) _ (gp_mem hk)
  repeat (first | refine VIf.tt ?_ | refine VIf.ff ?_)
  refine VFn.p (ends_fn _ ps _ fS _ (hv.le hM1) hn.1 (fun i hi M' => Eight1_fn _ M' (hC i hi))) ?_
  repeat (first | refine VIf.tt ?_ | refine VIf.ff ?_)
  refine VFn.p (ends_fn _ ps _ fD _ (hv.le hM1) hn.1 (fun i hi M' => Eight2_fn _ M' (hC i hi))) ?_
  obtain ⟨bd, bi⟩ := b8_bd hV
  obtain ⟨h1, h2, h3, h4, h5, h6, h7, h8, h9, h10, h11⟩ := bi
  repeat (first | refine VIf.tt ?_ | refine VIf.ff ?_)
  refine VCode.loop cxOK Nat
    (fun i => ⟨[(4, .box 0 0), (5, .box 1 0), (7, .v (.int .i64 (b8 ps).s)), (8, .v (.int .i64 (b8 ps).t)), (9, .v (.int .i64 (b8 ps).u)), (10, .v (.int .i64 (b8 ps).v)), (11, .row 3), (39, .row 2), (40, .v (.int .i64 2)), (41, .v (.int .i64 i))],
      [(0, some (.box 30 [.v (.int .i64 (b8 ps).a), .v (.int .i64 (b8 ps).c)])), (1, some (.box 30 [.v (.int .i64 (b8 ps).b), .v (.int .i64 (b8 ps).d)])), (2, some (.row 3 1 2 [.int .i64 (b8 ps).a, .int .i64 (b8 ps).b])), (3, some (.row 30 2 ((b8 ps).ptsP.take (2 * i)).length (cellsP ((b8 ps).ptsP.take (2 * i)))))], 4, M1, 109, ⟨fun _ => none, none, fun _ => none⟩⟩)
    (fun i => i ≤ 2) (fun i => 2 - i) 0 (Nat.zero_le _) ?_ ?_
  · refine Wk.nil 11 30 2 rfl (Wk.mk' id (by repeat' constructor) (by repeat' constructor) (injOK_id _) rfl rfl rfl)
  · rintro i hi m
    have hi : i ≤ 2 := hi
    repeat (first | refine VIf.tt ?_ | refine VIf.ff ?_)
    refine VIf.mk (fun hlt => ?_) (fun hge => ?_)
    · have hlt : i < 2 := by have := of_decide_eq_true hlt; omega
      obtain ⟨x, hx, hb, he⟩ := eight_x (b8 ps) hlt
      have hxb : -500000 ≤ x ∧ x ≤ 500000 := by omega
      repeat (first | refine VIf.tt ?_ | refine VIf.ff ?_)
      refine VIdxR.mk i rfl hlt ?_
      repeat (first | refine VIf.tt ?_ | refine VIf.ff ?_)
      refine VCells.mk [.int .i64 x] rfl (fun j v hj => by
        have : j = 0 := by
          match j, hj with
          | 0, _ => rfl
          | j + 1, hj => simp at hj
        subst this
        rw [← hj]; simpa using hx) ?_
      refine ⟨_, rfl, ?_⟩
      repeat (first | refine VIf.tt ?_ | refine VIf.ff ?_)
      refine VArith.ok (by first | omega | (simp only; omega)) (by first | omega | (simp only; omega)) ?_
      repeat (first | refine VIf.tt ?_ | refine VIf.ff ?_)
      refine VArith.ok (by first | omega | (simp only; omega)) (by first | omega | (simp only; omega)) ?_
      repeat (first | refine VIf.tt ?_ | refine VIf.ff ?_)
      refine VArith.ok (by first | omega | (simp only; omega)) (by first | omega | (simp only; omega)) ?_
      repeat (first | refine VIf.tt ?_ | refine VIf.ff ?_)
      refine VArith.ok (by first | omega | (simp only; omega)) (by first | omega | (simp only; omega)) ?_
      have hl : ((b8 ps).ptsP.take (2 * i)).length ≤ 8 := by simp [B8.ptsP]; omega
      repeat (first | refine VIf.tt ?_ | refine VIf.ff ?_)
      refine VFact.mk (by simp only; omega) ?_
      repeat (first | refine VIf.tt ?_ | refine VIf.ff ?_)
      refine VArith.ok (by first | omega | (simp only; omega)) (by first | omega | (simp only; omega)) ?_
      have e1 := congrArg List.length he
      rw [List.length_append] at e1
      have e2 := (congrArg cellsP he).trans (cells_app2 _ _ _)
      exact ⟨i + 1, hlt, (by first | omega | (simp only; omega)), Wk.mk' (fun k => if k = 3 then 5 else k) (by repeat' constructor) (by repeat' (first | exact e1.symm | exact e1 | exact e2.symm | exact e2 | constructor)) (injOK_b rfl) rfl rfl rfl⟩
    · have : i = 2 := by have := of_decide_eq_false hge; omega
      subst this
      repeat (first | refine VIf.tt ?_ | refine VIf.ff ?_)
      refine VCode.loop cxOK Nat
        (fun i => ⟨[(4, .box 0 0), (5, .box 1 0), (7, .v (.int .i64 (b8 ps).s)), (8, .v (.int .i64 (b8 ps).t)), (9, .v (.int .i64 (b8 ps).u)), (10, .v (.int .i64 (b8 ps).v)), (11, .row 3), (75, .row 2), (76, .v (.int .i64 2)), (77, .v (.int .i64 i))],
          [(0, some (.box 30 [.v (.int .i64 (b8 ps).a), .v (.int .i64 (b8 ps).c)])), (1, some (.box 30 [.v (.int .i64 (b8 ps).b), .v (.int .i64 (b8 ps).d)])), (2, some (.row 3 1 2 [.int .i64 (b8 ps).c, .int .i64 (b8 ps).d])), (3, some (.row 30 2 ((b8 ps).ptsP.take (4 + 2 * i)).length (cellsP ((b8 ps).ptsP.take (4 + 2 * i)))))], 4, M1, 109, ⟨fun _ => none, none, fun _ => none⟩⟩)
        (fun i => i ≤ 2) (fun i => 2 - i) 0 (Nat.zero_le _) ?_ ?_
      · refine Wk.mk' (fun k => if k = 2 then 4 else k) (by repeat' constructor) (by repeat' constructor) (injOK_b rfl) rfl rfl rfl
      · rintro i hi m
        have hi : i ≤ 2 := hi
        repeat (first | refine VIf.tt ?_ | refine VIf.ff ?_)
        refine VIf.mk (fun hlt => ?_) (fun hge => ?_)
        · have hlt : i < 2 := by have := of_decide_eq_true hlt; omega
          obtain ⟨x, hx, hb, he⟩ := eight_y (b8 ps) hlt
          have hxb : -500000 ≤ x ∧ x ≤ 500000 := by omega
          repeat (first | refine VIf.tt ?_ | refine VIf.ff ?_)
          refine VIdxR.mk i rfl hlt ?_
          repeat (first | refine VIf.tt ?_ | refine VIf.ff ?_)
          refine VCells.mk [.int .i64 x] rfl (fun j v hj => by
            have : j = 0 := by
              match j, hj with
              | 0, _ => rfl
              | j + 1, hj => simp at hj
            subst this
            rw [← hj]; simpa using hx) ?_
          refine ⟨_, rfl, ?_⟩
          repeat (first | refine VIf.tt ?_ | refine VIf.ff ?_)
          refine VArith.ok (by first | omega | (simp only; omega)) (by first | omega | (simp only; omega)) ?_
          repeat (first | refine VIf.tt ?_ | refine VIf.ff ?_)
          refine VArith.ok (by first | omega | (simp only; omega)) (by first | omega | (simp only; omega)) ?_
          repeat (first | refine VIf.tt ?_ | refine VIf.ff ?_)
          refine VArith.ok (by first | omega | (simp only; omega)) (by first | omega | (simp only; omega)) ?_
          repeat (first | refine VIf.tt ?_ | refine VIf.ff ?_)
          refine VArith.ok (by first | omega | (simp only; omega)) (by first | omega | (simp only; omega)) ?_
          have hl : ((b8 ps).ptsP.take (4 + 2 * i)).length ≤ 8 := by simp [B8.ptsP]; omega
          repeat (first | refine VIf.tt ?_ | refine VIf.ff ?_)
          refine VFact.mk (by simp only; omega) ?_
          repeat (first | refine VIf.tt ?_ | refine VIf.ff ?_)
          refine VArith.ok (by first | omega | (simp only; omega)) (by first | omega | (simp only; omega)) ?_
          have e1 := congrArg List.length he
          rw [List.length_append] at e1
          have e2 := (congrArg cellsP he).trans (cells_app2 _ _ _)
          exact ⟨i + 1, hlt, (by first | omega | (simp only; omega)), Wk.mk' (fun k => if k = 3 then 5 else k) (by repeat' constructor) (by repeat' (first | exact e1.symm | exact e1 | exact e2.symm | exact e2 | constructor)) (injOK_b rfl) rfl rfl rfl⟩
        · have : i = 2 := by have := of_decide_eq_false hge; omega
          subst this
          have e8 : (b8 ps).ptsP.take (4 + 2 * 2) = (b8 ps).ptsP := rfl
          repeat (first | refine VIf.tt ?_ | refine VIf.ff ?_)
          refine VFz.mk fun x B M2 hM2 hx => ?_
          have hx : Pts M2 x (b8 ps).ptsP := hx
          have hpl := (eight_spec hV).2.2.2.2.1
          repeat (first | refine VIf.tt ?_ | refine VIf.ff ?_)
          refine VFn.mk _ (around_fn x _ M2 hx (by simp [B8.ptsP]) (by simp [B8.ptsP]) (by
            rw [(b8_bd hV).2.eq]
            exact all_isC (List.all_eq_true.2 hpl))) ?_
          rintro rs M3 hM3 ⟨u, rfl, hu⟩
          repeat (first | refine VIf.tt ?_ | refine VIf.ff ?_)
          refine VFact.mk ?_ trivial
          show if _ then _ else _
          rw [if_pos hV]
          exact ⟨u, rfl, hu⟩
end Go.Proofs.Ytlppfikkgcfaoaa

/- Contracts: the reference's hull. -/
namespace Go.Proofs.Ytlppfikkgcfaoaa
open Go Go.V Go.RowKit
theorem Same_fn (v w : Value) (ps qs : List Pt) (M : Mem) (hv : Pts M v ps) (hw : Pts M w qs) : FnP Try.prog 39 [v, w] M [.bool (decide (ps = qs))] := by
  obtain ⟨ad, c, rfl⟩ := hv.shape
  obtain ⟨bd, d, rfl⟩ := hw.shape
  obtain ⟨_, hm, hrd⟩ := hv.cellsOf
  obtain ⟨_, hm', hrd'⟩ := hw.cellsOf
  unfold maxLen at hm hm'
  refine Fn.of_vc cxOK Try.func39 rfl rfl rfl ?_
  repeat (first | refine VIf.tt ?_ | refine VIf.ff ?_)
  refine VIf.mk (fun h => ?_) (fun h => ?_)
  · have h := ne_of_bne h
    repeat (first | refine VIf.tt ?_ | refine VIf.ff ?_)
    refine VFact.mk ⟨?_, rfl⟩ trivial
    rw [decide_eq_false (fun e => h (by rw [e]))]
  have hl : ps.length = qs.length := eq_of_bne h
  repeat (first | refine VIf.tt ?_ | refine VIf.ff ?_)
  refine VCode.loop cxOK Nat (fun i => ⟨[(0, .v (.slice ad ps.length c)), (1, .v (.slice bd qs.length d)), (5, .v (.int .i64 i))], [], 0, M, 26, ⟨fun _ => none, none, fun _ => none⟩⟩)
    (fun i => i ≤ ps.length ∧ ∀ j, j < i → gp ps j = gp qs j) (fun i => ps.length - i) 0 ⟨Nat.zero_le _, fun j hj => by omega⟩ (Wk.mk' id (by repeat' constructor) (by repeat' constructor) (injOK_id _) rfl rfl rfl) ?_
  rintro i ⟨hi, hz⟩ m
  repeat (first | refine VIf.tt ?_ | refine VIf.ff ?_)
  refine VIf.mk (fun hlt => ?_) (fun hge => ?_)
  · have hlt : i < ps.length := lt_of_dec hlt
    obtain ⟨a1, e1, r1⟩ := hrd M (Mem.le_refl _) i hlt
    obtain ⟨a2, e2, r2⟩ := hrd' M (Mem.le_refl _) i (by omega)
    repeat (first | refine VIf.tt ?_ | refine VIf.ff ?_)
    refine VDraw.go (by kernel_rfl) ?_
    repeat (first | refine VIf.tt ?_ | refine VIf.ff ?_)
    refine VIdx.mk a1 i e1 rfl hlt ?_
    repeat (first | refine VIf.tt ?_ | refine VIf.ff ?_)
    refine VReads.mk [.int .i64 (gp ps i).1, .int .i64 (gp ps i).2] rfl r1 ?_
    repeat (first | refine VIf.tt ?_ | refine VIf.ff ?_)
    refine VIdx.mk a2 i e2 rfl (by omega) ?_
    repeat (first | refine VIf.tt ?_ | refine VIf.ff ?_)
    refine VReads.mk [.int .i64 (gp qs i).1, .int .i64 (gp qs i).2] rfl r2 ?_
    repeat (first | refine VIf.tt ?_ | refine VIf.ff ?_)
    refine VIf.mk (fun hd => ?_) (fun hd => ?_)
    · repeat (first | refine VIf.tt ?_ | refine VIf.ff ?_)
      refine VFact.mk ⟨?_, rfl⟩ trivial
      rw [decide_eq_false (fun e => by rw [e] at hd; simp at hd)]
    · repeat (first | refine VIf.tt ?_ | refine VIf.ff ?_)
      refine VArith.ok (by first | omega | (simp only; omega)) (by first | omega | (simp only; omega)) ?_
      refine ⟨i + 1, ⟨hlt, fun j hj => ?_⟩, (by first | omega | (simp only; omega)), (Wk.mk' id (by repeat' constructor) (by repeat' constructor) (injOK_id _) rfl rfl rfl)⟩
      by_cases e : j = i
      · subst e
        simp only [Bool.not_eq_false', Bool.and_eq_true, beq_iff_eq] at hd
        exact Prod.ext hd.1 hd.2
      · exact hz j (by omega)
  · have : i = ps.length := by have := ge_of_dec hge; omega
    subst this
    repeat (first | refine VIf.tt ?_ | refine VIf.ff ?_)
    refine VFact.mk ⟨?_, rfl⟩ trivial
    rw [decide_eq_true (ext_gp hl hz)]
theorem nextP_step {l : List Pt} {fr b to y : Pt} (h : E l fr b) (hto : to ∈ l) (hy : y ∈ l) :
    (y = b → to = b ∨ (to = fr ∨ crossP fr to y < 0 ∨ crossP fr to y = 0 ∧ betwB fr y to = true)) ∧ (to = b → y ≠ b → ¬ (to = fr ∨ crossP fr to y < 0 ∨ crossP fr to y = 0 ∧ betwB fr y to = true)) := by
  obtain ⟨h1, h2, h3, h4⟩ := h
  constructor
  · rintro rfl
    by_cases e : to = fr
    · exact .inr (.inl e)
    rcases h4 to hto with g | ⟨g, gb⟩
    · refine .inr (.inr (.inl ?_))
      rw [crossP_swap]; omega
    · refine .inr (.inr (.inr ⟨?_, gb⟩))
      rw [crossP_swap, g]; rfl
  · rintro rfl hne hc
    rcases hc with e | e | ⟨e, eb⟩
    · exact h3 e.symm
    · rcases h4 y hy with g | ⟨g, _⟩ <;> omega
    · rcases h4 y hy with g | ⟨g, gb⟩
      · omega
      · simp only [betwB, decide_eq_true_eq] at eb gb
        exact hne (Prod.ext (by omega) (by omega))
/-- b is what comes behind fr. -/
def Nxt (l : List Pt) (fr b : Pt) : Prop := fr ∈ l ∧ b ∈ l ∧ (E l fr b ∨ b = fr ∧ ∀ y ∈ l, y = fr)
end Go.Proofs.Ytlppfikkgcfaoaa

/- Contracts: the reference's hull, joined. -/
namespace Go.Proofs.Ytlppfikkgcfaoaa
open Go Go.V Go.RowKit
theorem hl_nxt {l p : List Pt} (h : Hl l p) {k : Nat} (hk : k < p.length) : Nxt l (gp p k) (gp p ((k + 1) % p.length)) := by
  have hm : ∀ {i : Nat}, i < p.length → gp p i ∈ l := fun hi => h.mem hi
  refine ⟨hm hk, hm (Nat.mod_lt _ (by omega)), ?_⟩
  cases h with
  | one a hp hS ha =>
    subst hp
    have : k = 0 := by simp at hk; omega
    subst this
    exact .inr ⟨by simp [gp], fun y hy => hS y hy⟩
  | many h => exact .inl (h.side k hk)
theorem hl_inj {l p : List Pt} (h : Hl l p) : ∀ i j, i < j → j < p.length → gp p i ≠ gp p j := by
  cases h with
  | one a hp hS ha => subst hp; intro i j hij hj; simp at hj; omega
  | many h => exact h.inj
theorem hl_first {l p : List Pt} (h : Hl l p) : ∀ y ∈ l, lexLe (gp p 0) y := by
  cases h with
  | one a hp hS ha => subst hp; intro y hy; rw [hS y hy]; exact lexLe_refl _
  | many h => exact h.fst
theorem take_gp (p : List Pt) {k : Nat} (h : k < p.length) : p.take (k + 1) = p.take k ++ [gp p k] := by
  rw [List.take_add_one]; simp [gp, h]
theorem cells_app1 (l : List Pt) (p : Pt) : cellsP (l ++ [p]) = cellsP l ++ ([.int .i64 p.1, .int .i64 p.2] ++ []) := by simp [cellsP]
end Go.Proofs.Ytlppfikkgcfaoaa

/- Contracts: the reference's Hull, Has, Box, Eight, Area. -/
namespace Go.Proofs.Ytlppfikkgcfaoaa
open Go Go.V Go.RowKit
theorem all_range_place (l : List Pt) : ((List.range l.length).all fun i => placeB (gp l i)) = l.all placeB := by
  rw [Bool.eq_iff_iff, all_iff, List.all_eq_true]
  constructor
  · intro h x hx
    obtain ⟨i, hi, rfl⟩ := mem_gp hx
    exact h i hi
  · exact fun h i hi => h _ (gp_mem hi)
theorem allC_valid {ps : List Pt} (hV : validB ps = true) : allC ps := fun k hk => all_isC (List.all_eq_true.2 fun p hp => by
  obtain ⟨i, hi, rfl⟩ := mem_gp hp
  exact valid_place hV hi) _ (gp_mem hk)
def linP (a b : Int) (p : Pt) : Int := a * p.1 + b * p.2
end Go.Proofs.Ytlppfikkgcfaoaa

/- Contracts: the reference's Corners, Box, Octagon, Eight, Area. -/
namespace Go.Proofs.Ytlppfikkgcfaoaa
open Go Go.V Go.RowKit
theorem lin10 : linP 1 0 = fX := funext fun p => by unfold linP fX; omega
theorem lin01 : linP 0 1 = fY := funext fun p => by unfold linP fY; omega
theorem lin11 : linP 1 1 = fS := funext fun p => by unfold linP fS; omega
theorem lin1m : linP 1 (-1) = fD := funext fun p => by unfold linP fD; omega
end Go.Proofs.Ytlppfikkgcfaoaa

/- Contracts: the same, with the value given; the statements' examples. -/
namespace Go.Proofs.Ytlppfikkgcfaoaa
open Go Go.V Go.RowKit
theorem Hull_is {v : Value} {l p : List Pt} {e : Int} {M : Mem} (hv : Pts M v l) (h64 : i64P l) (hr : hullB l = (p, e)) : V.Fn Try.prog 58 [v] M fun rs M' => ∃ u, rs = [u, .int .i64 e] ∧ Pts M' u p := by
  have := Hull_fn v l M hv h64
  rw [hr] at this
  exact this
theorem Eight_is {v : Value} {ps q : List Pt} {M : Mem} (hv : Pts M v ps) (h64 : i64P ps) (hV : validB ps = true) (hr : eightP ps = q) : V.Fn Try.prog 75 [v] M fun rs M' => ∃ u, rs = [u, .int .i64 0] ∧ Pts M' u q := by
  have := Eight_fn v ps M hv h64
  simp only [hV, if_true] at this
  rw [hr] at this
  exact this
theorem Eight_no {v : Value} {ps : List Pt} {M : Mem} (hv : Pts M v ps) (h64 : i64P ps) (hV : validB ps = false) : V.Fn Try.prog 75 [v] M fun rs M' => rs = [.slice none 0 0, .int .i64 1] := by
  have := Eight_fn v ps M hv h64
  simp only [hV, Bool.false_eq_true, if_false] at this
  exact this
theorem Box_is {v : Value} {ps : List Pt} {lo hi : Pt} {M : Mem} (hv : Pts M v ps) (h64 : i64P ps) (hV : validB ps = true) (hl : boxLo ps = lo) (hh : boxHi ps = hi) : V.Fn Try.prog 25 [v] M fun rs _ => rs = [ptv lo, ptv hi, .int .i64 0] := by
  have := Box_fn v ps M hv h64
  rw [hV, hl, hh] at this
  exact this
theorem Box_no {v : Value} {ps : List Pt} {M : Mem} (hv : Pts M v ps) (h64 : i64P ps) (hV : validB ps = false) : V.Fn Try.prog 25 [v] M fun rs _ => rs = [pt 0 0, pt 0 0, .int .i64 1] := by
  have := Box_fn v ps M hv h64
  rw [hV] at this
  exact this
/-- What Has says. -/
def hasE (ps : List Pt) (x : Pt) : Bool × Int := if (validB ps && placeB x) = true then (hasB ps x, 0) else (false, 1)
theorem hasB_is {v : Value} {ps : List Pt} {x : Pt} {b : Bool} {e : Int} {M : Mem} (hv : Pts M v ps) (h64 : i64P ps) (hx : i64r x.1 ∧ i64r x.2) (hr : hasE ps x = (b, e)) : V.Fn Try.prog 33 [v, ptv x] M fun rs _ => rs = [.bool b, .int .i64 e] := by
  have := Has_fn v ps x.1 x.2 M hv h64 hx.1 hx.2
  unfold hasE at hr
  by_cases h : (validB ps && placeB x) = true
  · rw [if_pos h] at hr
    simp only [h, if_true] at this
    cases hr; exact this
  · rw [if_neg h] at hr
    simp only [h, Bool.false_eq_true, if_false] at this
    cases hr; exact this
def six : List Pt := [(0, 0), (4, 0), (2, 1), (4, 4), (2, 0), (0, 4)]
def sq : List Pt := [(0, 0), (4, 0), (4, 4), (0, 4)]
def two : List Pt := [(0, 0), (5, 1)]
def rhomb : List Pt := [(0, 0), (4, 0), (5, 1), (1, 1)]
theorem hull_six : hullB six = (sq, 0) := by
  have h : aroundP six = sq := around_eq (hl_of_has (by decide) (by decide) (by decide))
  unfold hullB
  rw [h, if_neg (by decide), if_neg (by decide), if_neg (by decide)]
theorem eight_two : eightP two = rhomb := by
  unfold eightP
  exact around_eq (hl_of_has (by decide) (by decide) (by decide))
theorem hull_nil : hullB [] = ([], 1) := rfl
theorem hull_far : hullB [(500001, 0)] = ([], 1) := by
  unfold hullB
  rw [if_neg (by decide), if_pos (by decide)]
theorem i64P_of {ps : List Pt} (h : ∀ p ∈ ps, i64r p.1 ∧ i64r p.2) : i64P ps := fun i hi => h _ (gp_mem hi)
theorem i64P_valid {ps : List Pt} (hV : validB ps = true) : i64P ps := fun i hi => by
  have := allC_valid hV i hi
  unfold isC at this
  unfold i64r
  omega
end Go.Proofs.Ytlppfikkgcfaoaa

/- Contracts of tide: Drift. -/
namespace Go.Proofs.Ytlppfikkgcfaoaa
open Go Go.V Go.RowKit
def carA (f : FlowS) (n : Int) : Pt := (f.ul * n / 100, f.vl * n / 100)
def carB (f : FlowS) (n : Int) : Pt := (-(-(f.uh * n) / 100), -(-(f.vh * n) / 100))
def boxP (a b : Pt) : List Pt := [a, (b.1, a.2), b, (a.1, b.2)]
theorem up_fn (a : Int) (M : Mem) (h1 : -1000000000000 ≤ a) (h2 : a ≤ 1000000000000) : FnP Try.prog 57 [.int .i64 a] M [.int .i64 (-(-a / 100))] := by
  refine Fn.of_vc cxOK Try.func57 rfl rfl rfl ?_
  repeat (first | refine VIf.tt ?_ | refine VIf.ff ?_)
  refine VArith.ok (by first | omega | (simp only; omega)) (by first | omega | (simp only; omega)) ?_
  repeat (first | refine VIf.tt ?_ | refine VIf.ff ?_)
  refine VFn.p (down_fn (-a) 100 M (by omega) (by omega) (by omega) (by omega)) ?_
  repeat (first | refine VIf.tt ?_ | refine VIf.ff ?_)
  refine VArith.ok (by first | omega | (simp only; omega)) (by first | omega | (simp only; omega)) ?_
  repeat (first | refine VIf.tt ?_ | refine VIf.ff ?_)
  exact VFact.mk ⟨rfl, rfl⟩ trivial
theorem inB_bnd {t : TideS} (ht : tideB t = true) {x1 x2 y1 y2 s1 s2 : Int} {f : FlowS} (h : IsJ (inB t x1 x2 y1 y2 s1 s2) f) : bndB f = true := h.bnd fun g hg => by
  obtain ⟨x, y, s, _, _, _, _, _, _, rfl⟩ := hg
  exact of_bnd ht _ _ _
def DriftR (t : TideS) (x1 y1 x2 y2 n1 n2 : Int) (rs : List Value) (M' : Mem) : Prop :=
  (¬ GoodT t x1 y1 x2 y2 n1 n2 ∧ rs = [.slice none 0 0, .int .i64 1]) ∨
  (GoodT t x1 y1 x2 y2 n1 n2 ∧ ∃ f, IsJ (inB t (x1 / 10000) (x2 / 10000) (y1 / 10000) (y2 / 10000) ((n1 - t.fr) / 3600) ((n2 - t.fr) / 3600)) f ∧
    ((100000 < n2 - n1 ∧ rs = [.slice none 0 0, .int .i64 1]) ∨
     (n2 - n1 ≤ 100000 ∧ (placeB (carA f (n2 - n1)) && placeB (carB f (n2 - n1))) = false ∧ rs = [.slice none 0 0, .int .i64 3]) ∨
     (n2 - n1 ≤ 100000 ∧ placeB (carA f (n2 - n1)) = true ∧ placeB (carB f (n2 - n1)) = true ∧ ∃ u p e, rs = [u, .int .i64 e] ∧ hullB (boxP (carA f (n2 - n1)) (carB f (n2 - n1))) = (p, e) ∧ Pts M' u p)))
set_option maxRecDepth 20000 in
set_option maxHeartbeats 2000000 in
theorem Drift_fn (t : TideS) (v : Value) (x1 y1 x2 y2 n1 n2 : Int) (M : Mem) (hv : FlsV M v t.fl) : V.Fn Try.prog 24 [tdV t v, pt x1 y1, pt x2 y2, .int .i64 n1, .int .i64 n2] M (DriftR t x1 y1 x2 y2 n1 n2) := by
  have hv' := hv
  obtain ⟨ad, c, rfl, hm, hrd⟩ := hv.get
  refine Fn.of_vc cxOK Try.func24 rfl rfl rfl ?_
  repeat (first | refine VIf.tt ?_ | refine VIf.ff ?_)
  refine VFn.mk _ (Bound_fn t _ x1 y1 x2 y2 n1 n2 M hv') ?_
  rintro rs M1 hM1 (⟨good, f, rfl, hJ⟩ | ⟨bad, rfl⟩)
  rotate_left
  · repeat (first | refine VIf.tt ?_ | refine VIf.ff ?_)
    repeat (first | refine VIf.tt ?_ | refine VIf.ff ?_)
    exact VFact.mk (.inl ⟨bad, rfl⟩) trivial
  have hb := inB_bnd good.ht hJ
  simp only [bndB, spB, Bool.and_eq_true, decide_eq_true_eq] at hb
  have q1 := good.h1
  have q2 := good.h2
  have q3 := good.h3
  repeat (first | refine VIf.tt ?_ | refine VIf.ff ?_)
  repeat (first | refine VIf.tt ?_ | refine VIf.ff ?_)
  refine VArith.ok (by first | omega | (simp only; omega)) (by first | omega | (simp only; omega)) ?_
  repeat (first | refine VIf.tt ?_ | refine VIf.ff ?_)
  refine VIf.mk (fun e1 => ?_) (fun e1 => ?_)
  · repeat (first | refine VIf.tt ?_ | refine VIf.ff ?_)
    exact VFact.mk (.inr ⟨good, f, hJ, .inl ⟨of_decide_eq_true e1, rfl⟩⟩) trivial
  have hn : n2 - n1 ≤ 100000 := by have := of_decide_eq_false e1; omega
  have b1 := mul_bd (a := f.ul) (b := n2 - n1) 5000 100000 (by omega) (by omega) (by omega) (by omega) (by omega) (by omega)
  have b2 := mul_bd (a := f.vl) (b := n2 - n1) 5000 100000 (by omega) (by omega) (by omega) (by omega) (by omega) (by omega)
  have b3 := mul_bd (a := f.uh) (b := n2 - n1) 5000 100000 (by omega) (by omega) (by omega) (by omega) (by omega) (by omega)
  have b4 := mul_bd (a := f.vh) (b := n2 - n1) 5000 100000 (by omega) (by omega) (by omega) (by omega) (by omega) (by omega)
  repeat (first | refine VIf.tt ?_ | refine VIf.ff ?_)
  refine VDraw.code ?_
  repeat (first | refine VIf.tt ?_ | refine VIf.ff ?_)
  refine VCode.frz [12] ?_
  repeat (first | refine VIf.tt ?_ | refine VIf.ff ?_)
  refine VFzB.mk fun z D N hN hD => ?_
  have hD : N D = some (.cells #[.int .i64 f.x, .int .i64 f.y, .int .i64 f.s, .int .i64 f.ul, .int .i64 f.uh, .int .i64 f.vl, .int .i64 f.vh, .int .i64 f.hl, .int .i64 f.hh] 25 (0, 0)) := hD
  repeat (first | refine VIf.tt ?_ | refine VIf.ff ?_)
  refine VCode.draws cxOK [] (by kernel_rfl) Unit
    (fun _ => ⟨[(12, .v (.pointer (some ⟨D, 0, none⟩))), (14, .v (.int .i64 (n2 - n1))), (15, .clo 57 [] []), (16, .box 0 0)], [(0, some (.box 30 [.v (.int .i64 (f.ul * (n2 - n1) / 100)), .v (.int .i64 (f.vl * (n2 - n1) / 100))]))], 1, N, 87, ⟨fun _ => none, none, fun _ => none⟩⟩)
    (fun _ => True) ?_ ?_
  · have d1 := down_fn (f.ul * (n2 - n1)) 100 N (by omega) (by omega) (by omega) (by omega)
    have d2 := down_fn (f.vl * (n2 - n1)) 100 N (by omega) (by omega) (by omega) (by omega)
    repeat (first | refine VIf.tt ?_ | refine VIf.ff ?_)
    refine VRead.mk _ (cellAt hD 3 rfl) ?_
    repeat (first | refine VIf.tt ?_ | refine VIf.ff ?_)
    refine VArith.ok (by omega) (by omega) ?_
    repeat (first | refine VIf.tt ?_ | refine VIf.ff ?_)
    refine VRead.mk _ (cellAt hD 5 rfl) ?_
    repeat (first | refine VIf.tt ?_ | refine VIf.ff ?_)
    refine VArith.ok (by omega) (by omega) ?_
    refine VBoth.mk ?_ ?_
    · repeat (first | refine VIf.tt ?_ | refine VIf.ff ?_)
      refine VFn.p d1 ?_
      repeat (first | refine VIf.tt ?_ | refine VIf.ff ?_)
      refine VFact.mk (Mem.le_refl _) ?_
      refine VBoth.mk ?_ ?_
      · repeat (first | refine VIf.tt ?_ | refine VIf.ff ?_)
        refine VFn.p d2 ?_
        repeat (first | refine VIf.tt ?_ | refine VIf.ff ?_)
        refine VFact.mk (Mem.le_refl _) ?_
        repeat (first | refine VIf.tt ?_ | refine VIf.ff ?_)
        refine VFact.mk (Mem.le_refl _) ?_
        repeat (first | refine VIf.tt ?_ | refine VIf.ff ?_)
        refine VFact.mk (Mem.le_refl _) ?_
        exact ⟨(), trivial, Wk.mk' (fun k => if k = 0 then 4 else k) (by repeat' constructor) (by repeat' constructor) (by simp [injOK]) rfl rfl rfl⟩
      · repeat (first | refine VIf.tt ?_ | refine VIf.ff ?_)
        refine VFact.mk (Mem.le_refl _) ?_
        repeat (first | refine VIf.tt ?_ | refine VIf.ff ?_)
        refine VFn.p d2 ?_
        repeat (first | refine VIf.tt ?_ | refine VIf.ff ?_)
        refine VFact.mk (Mem.le_refl _) ?_
        repeat (first | refine VIf.tt ?_ | refine VIf.ff ?_)
        refine VFact.mk (Mem.le_refl _) ?_
        exact ⟨(), trivial, Wk.mk' (fun k => if k = 0 then 4 else k) (by repeat' constructor) (by repeat' constructor) (by simp [injOK]) rfl rfl rfl⟩
    · repeat (first | refine VIf.tt ?_ | refine VIf.ff ?_)
      refine VFact.mk (Mem.le_refl _) ?_
      repeat (first | refine VIf.tt ?_ | refine VIf.ff ?_)
      refine VFn.p d1 ?_
      repeat (first | refine VIf.tt ?_ | refine VIf.ff ?_)
      refine VFact.mk (Mem.le_refl _) ?_
      repeat (first | refine VIf.tt ?_ | refine VIf.ff ?_)
      refine VFn.p d2 ?_
      repeat (first | refine VIf.tt ?_ | refine VIf.ff ?_)
      refine VFact.mk (Mem.le_refl _) ?_
      repeat (first | refine VIf.tt ?_ | refine VIf.ff ?_)
      refine VFact.mk (Mem.le_refl _) ?_
      exact ⟨(), trivial, Wk.mk' (fun k => if k = 0 then 4 else k) (by repeat' constructor) (by repeat' constructor) (by simp [injOK]) rfl rfl rfl⟩
  rintro _ m _
  repeat (first | refine VIf.tt ?_ | refine VIf.ff ?_)
  refine VDraw.code ?_
  repeat (first | refine VIf.tt ?_ | refine VIf.ff ?_)
  refine VCode.draws cxOK [] (by kernel_rfl) Unit
    (fun _ => ⟨[(16, .box 0 0), (17, .box 1 0)], [(1, some (.box 30 [.v (.int .i64 (-(-(f.uh * (n2 - n1)) / 100))), .v (.int .i64 (-(-(f.vh * (n2 - n1)) / 100)))])), (0, some (.box 30 [.v (.int .i64 (f.ul * (n2 - n1) / 100)), .v (.int .i64 (f.vl * (n2 - n1) / 100))]))], 2, N, 87, ⟨fun _ => none, none, fun _ => none⟩⟩)
    (fun _ => True) ?_ ?_
  · have d3 := up_fn (f.uh * (n2 - n1)) N (by omega) (by omega)
    have d4 := up_fn (f.vh * (n2 - n1)) N (by omega) (by omega)
    repeat (first | refine VIf.tt ?_ | refine VIf.ff ?_)
    refine VRead.mk _ (cellAt hD 4 rfl) ?_
    repeat (first | refine VIf.tt ?_ | refine VIf.ff ?_)
    refine VArith.ok (by omega) (by omega) ?_
    repeat (first | refine VIf.tt ?_ | refine VIf.ff ?_)
    refine VRead.mk _ (cellAt hD 6 rfl) ?_
    repeat (first | refine VIf.tt ?_ | refine VIf.ff ?_)
    refine VArith.ok (by omega) (by omega) ?_
    refine VBoth.mk ?_ ?_
    · repeat (first | refine VIf.tt ?_ | refine VIf.ff ?_)
      refine VFn.p d3 ?_
      repeat (first | refine VIf.tt ?_ | refine VIf.ff ?_)
      refine VFact.mk (Mem.le_refl _) ?_
      refine VBoth.mk ?_ ?_
      · repeat (first | refine VIf.tt ?_ | refine VIf.ff ?_)
        refine VFn.p d4 ?_
        repeat (first | refine VIf.tt ?_ | refine VIf.ff ?_)
        refine VFact.mk (Mem.le_refl _) ?_
        repeat (first | refine VIf.tt ?_ | refine VIf.ff ?_)
        refine VFact.mk (Mem.le_refl _) ?_
        repeat (first | refine VIf.tt ?_ | refine VIf.ff ?_)
        refine VFact.mk (Mem.le_refl _) ?_
        exact ⟨(), trivial, (Wk.mk' id (by repeat' constructor) (by repeat' constructor) (injOK_id _) rfl rfl rfl)⟩
      · repeat (first | refine VIf.tt ?_ | refine VIf.ff ?_)
        refine VFact.mk (Mem.le_refl _) ?_
        repeat (first | refine VIf.tt ?_ | refine VIf.ff ?_)
        refine VFn.p d4 ?_
        repeat (first | refine VIf.tt ?_ | refine VIf.ff ?_)
        refine VFact.mk (Mem.le_refl _) ?_
        repeat (first | refine VIf.tt ?_ | refine VIf.ff ?_)
        refine VFact.mk (Mem.le_refl _) ?_
        exact ⟨(), trivial, (Wk.mk' id (by repeat' constructor) (by repeat' constructor) (injOK_id _) rfl rfl rfl)⟩
    · repeat (first | refine VIf.tt ?_ | refine VIf.ff ?_)
      refine VFact.mk (Mem.le_refl _) ?_
      repeat (first | refine VIf.tt ?_ | refine VIf.ff ?_)
      refine VFn.p d3 ?_
      repeat (first | refine VIf.tt ?_ | refine VIf.ff ?_)
      refine VFact.mk (Mem.le_refl _) ?_
      repeat (first | refine VIf.tt ?_ | refine VIf.ff ?_)
      refine VFn.p d4 ?_
      repeat (first | refine VIf.tt ?_ | refine VIf.ff ?_)
      refine VFact.mk (Mem.le_refl _) ?_
      repeat (first | refine VIf.tt ?_ | refine VIf.ff ?_)
      refine VFact.mk (Mem.le_refl _) ?_
      exact ⟨(), trivial, (Wk.mk' id (by repeat' constructor) (by repeat' constructor) (injOK_id _) rfl rfl rfl)⟩
  rintro _ m _
  repeat (first | refine VIf.tt ?_ | refine VIf.ff ?_)
  refine VFn.p (tidePlace_fn _ _ N) ?_
  repeat (first | refine VIf.tt ?_ | refine VIf.ff ?_)
  refine VIf.mk (fun e2 => ?_) (fun e2 => ?_)
  · repeat (first | refine VIf.tt ?_ | refine VIf.ff ?_)
    refine VFact.mk (.inr ⟨good, f, hJ, .inr (.inl ⟨hn, ?_, rfl⟩)⟩) trivial
    rw [show placeB (carA f (n2 - n1)) = false from (Bool.not_eq_true' _).mp e2]; rfl
  repeat (first | refine VIf.tt ?_ | refine VIf.ff ?_)
  refine VFn.p (tidePlace_fn _ _ N) ?_
  repeat (first | refine VIf.tt ?_ | refine VIf.ff ?_)
  refine VIf.mk (fun e3 => ?_) (fun e3 => ?_)
  · repeat (first | refine VIf.tt ?_ | refine VIf.ff ?_)
    refine VFact.mk (.inr ⟨good, f, hJ, .inr (.inl ⟨hn, ?_, rfl⟩)⟩) trivial
    rw [show placeB (carB f (n2 - n1)) = false from (Bool.not_eq_true' _).mp e3, Bool.and_false]
  have pA : placeB (carA f (n2 - n1)) = true := (Bool.not_eq_false' _).mp e2
  have pB : placeB (carB f (n2 - n1)) = true := (Bool.not_eq_false' _).mp e3
  repeat (first | refine VIf.tt ?_ | refine VIf.ff ?_)
  refine VFz.mk fun x B2 M2 hM2 hx => ?_
  have hx : Pts M2 x (boxP (carA f (n2 - n1)) (carB f (n2 - n1))) := hx
  have g : i64P (boxP (carA f (n2 - n1)) (carB f (n2 - n1))) := by
    have p1 := pA
    have p2 := pB
    simp only [placeB, Bool.and_eq_true] at p1 p2
    have r1 := isCb_bd p1.1
    have r2 := isCb_bd p1.2
    have r3 := isCb_bd p2.1
    have r4 := isCb_bd p2.2
    intro i hi
    unfold i64r
    match i, hi with
    | 0, _ => simp only [boxP, gp, List.getD_cons_zero]; omega
    | 1, _ => simp only [boxP, gp, List.getD_cons_zero, List.getD_cons_succ]; omega
    | 2, _ => simp only [boxP, gp, List.getD_cons_zero, List.getD_cons_succ]; omega
    | 3, _ => simp only [boxP, gp, List.getD_cons_zero, List.getD_cons_succ]; omega
  obtain ⟨⟨p, e⟩, hr⟩ : ∃ r, hullB (boxP (carA f (n2 - n1)) (carB f (n2 - n1))) = r := ⟨_, rfl⟩
  repeat (first | refine VIf.tt ?_ | refine VIf.ff ?_)
  refine VFn.mk _ (Hull_is hx g hr) ?_
  rintro rs M3 hM3 ⟨u, rfl, hu⟩
  repeat (first | refine VIf.tt ?_ | refine VIf.ff ?_)
  exact VFact.mk (.inr ⟨good, f, hJ, .inr (.inr ⟨hn, pA, pB, u, p, e, rfl, hr, hu⟩)⟩) trivial
end Go.Proofs.Ytlppfikkgcfaoaa

/- Contract: the examples at the head of the hull's laws. -/
namespace Go.Proofs.Ytlppfikkgcfaoaa
open Go Go.V Go.RowKit
end Go.Proofs.Ytlppfikkgcfaoaa

/- HullMatchesReference: all functions of package hull return what the reference returns. No conditions beyond the statement's own. -/
namespace Go.Proofs.Ytlppfikkgcfaoaa
open Go Go.V Go.RowKit
theorem Same_is {v w : Value} {ps : List Pt} {M : Mem} (hv : Pts M v ps) (hw : Pts M w ps) : FnP Try.prog 39 [v, w] M [.bool true] := by
  have := Same_fn v w ps ps M hv hw
  rw [decide_eq_true rfl] at this
  exact this
theorem V_is {v : Value} {ps : List Pt} {b : Bool} {M : Mem} (hv : Pts M v ps) (h64 : i64P ps) (hr : validB ps = b) : V.Fn Try.prog 35 [v] M fun rs _ => rs = [.bool b] := by
  have := Valid_fn v ps M hv h64
  rw [hr] at this
  exact this
theorem beqb_no {a : Bool} {A : Prop} (h : (a == a) = false) : A := by cases a <;> cases h
theorem beqp_no {a b : Int} {A : Prop} (h : (a == a && b == b) = false) : A := by simp at h
theorem beq_no {a : Int} {A : Prop} (h : (a == a) = false) : A := by simp at h
end Go.Proofs.Ytlppfikkgcfaoaa
namespace Go.Proofs.Ytlppfikkgcfaoaa.hullMatchesReference
open Go Go.V Go.RowKit
end Go.Proofs.Ytlppfikkgcfaoaa.hullMatchesReference

/- What a hull's result says; more contracts with the value given. -/
namespace Go.Proofs.Ytlppfikkgcfaoaa
open Go Go.V Go.RowKit
theorem hull_split {l p : List Pt} {e : Int} (hr : hullB l = (p, e)) : (e = 0 ∧ Hl l p ∧ validB p = true ∧ l.all placeB = true ∧ l.length ≤ 4000 ∧ p.length ≤ 64) ∨ (e ≠ 0 ∧ p = []) := by
  unfold hullB at hr
  split at hr
  · cases hr; exact .inr ⟨by decide, rfl⟩
  split at hr
  · cases hr; exact .inr ⟨by decide, rfl⟩
  split at hr
  · cases hr; exact .inr ⟨by decide, rfl⟩
  · rename_i h1 h2 h3
    cases hr
    have hne : l ≠ [] := fun h => h2 (.inl h)
    have hall : l.all placeB = true := by
      cases h : l.all placeB with
      | true => rfl
      | false => exact absurd (.inr h) h2
    have hh := around_hl hne
    exact .inl ⟨rfl, hh, hh.valid (fun x hx => List.all_eq_true.1 hall x hx) (by omega), hall, by omega, by omega⟩
theorem place_C {x : Pt} (h : placeB x = true) : isC x.1 ∧ isC x.2 := all_isC (l := [x]) (by simp [h]) x (by simp)
theorem place_64 {x : Pt} (h : placeB x = true) : i64r x.1 ∧ i64r x.2 := by
  have := place_C h
  unfold isC at this
  unfold i64r
  omega
theorem hasE_is {p : List Pt} {x : Pt} (hV : validB p = true) (hP : placeB x = true) {b : Bool} (h : hasB p x = b) : hasE p x = (b, 0) := by
  unfold hasE
  rw [hV, hP, h]; rfl
theorem Place_is {x : Pt} {b : Bool} {M : Mem} (hr : placeB x = b) : FnP Try.prog 85 [ptv x] M [.bool b] := by
  have := Place_fn x.1 x.2 M
  rw [show (isCb x.1 && isCb x.2) = placeB x from rfl, hr] at this
  exact this
end Go.Proofs.Ytlppfikkgcfaoaa

/- Plain facts about drifts: the hull of a box. -/
namespace Go.Proofs.Ytlppfikkgcfaoaa
open Go Go.V Go.RowKit
theorem aff_box {α β γ : Int} {a b x : Pt} (h1 : a.1 ≤ x.1) (h2 : x.1 ≤ b.1) (h3 : a.2 ≤ x.2) (h4 : x.2 ≤ b.2) (h : ∀ y ∈ boxP a b, 0 ≤ aff α β γ y) : 0 ≤ aff α β γ x := by
  have e1 := h a (by simp [boxP])
  have e2 := h (b.1, a.2) (by simp [boxP])
  have e3 := h b (by simp [boxP])
  have e4 := h (a.1, b.2) (by simp [boxP])
  unfold aff at *
  simp only at e1 e2 e3 e4
  rcases Int.le_total 0 α with ha | ha
  · have k1 : α * a.1 ≤ α * x.1 := Int.mul_le_mul_of_nonneg_left h1 ha
    rcases Int.le_total 0 β with hb | hb
    · have k2 : β * a.2 ≤ β * x.2 := Int.mul_le_mul_of_nonneg_left h3 hb
      omega
    · have k2 : β * b.2 ≤ β * x.2 := Int.mul_le_mul_of_nonpos_left hb h4
      omega
  · have k1 : α * b.1 ≤ α * x.1 := Int.mul_le_mul_of_nonpos_left ha h2
    rcases Int.le_total 0 β with hb | hb
    · have k2 : β * a.2 ≤ β * x.2 := Int.mul_le_mul_of_nonneg_left h3 hb
      omega
    · have k2 : β * b.2 ≤ β * x.2 := Int.mul_le_mul_of_nonpos_left hb h4
      omega
theorem box_has {a b x : Pt} {p : List Pt} (h : Hl (boxP a b) p) (h1 : a.1 ≤ x.1) (h2 : x.1 ≤ b.1) (h3 : a.2 ≤ x.2) (h4 : x.2 ≤ b.2) : hasB p x = true :=
  hl_lin h fun _ _ _ hy => aff_box h1 h2 h3 h4 hy
theorem box_hull {a b : Pt} (ha : placeB a = true) (hb : placeB b = true) : ∃ p, hullB (boxP a b) = (p, 0) ∧ Hl (boxP a b) p ∧ validB p = true := by
  have hh : Hl (boxP a b) (aroundP (boxP a b)) := around_hl (by simp [boxP])
  have hl := hl_len hh
  have h4 : (boxP a b).length = 4 := rfl
  simp only [placeB, Bool.and_eq_true] at ha hb
  have hall : (boxP a b).all placeB = true := by simp [boxP, placeB, ha.1, ha.2, hb.1, hb.2]
  refine ⟨_, ?_, hh, hh.valid (fun x hx => List.all_eq_true.1 hall x hx) (by omega)⟩
  unfold hullB
  rw [if_neg (by rw [h4]; omega), if_neg (by rw [hall]; simp [boxP]), if_neg (by omega)]
theorem lo_of {S p : List Pt} (h : Hl S p) (hV : validB p = true) (g : Pt → Int) {m : Int} (hg : ∀ x, hasB p x = true → loB g p ≤ g x) (hm : ∀ y ∈ S, m ≤ g y) (hx : ∃ y ∈ S, g y = m) : loB g p = m := by
  obtain ⟨y, hy, e⟩ := (lo_spec g (len_one hV).1).2
  have h1 := hm y (h.sub y hy)
  obtain ⟨z, hz, e2⟩ := hx
  have h2 := hg z (h.has hz)
  omega
theorem hi_of {S p : List Pt} (h : Hl S p) (hV : validB p = true) (g : Pt → Int) {m : Int} (hg : ∀ x, hasB p x = true → g x ≤ hiB g p) (hm : ∀ y ∈ S, g y ≤ m) (hx : ∃ y ∈ S, g y = m) : hiB g p = m := by
  obtain ⟨y, hy, e⟩ := (hi_spec g (len_one hV).1).2
  have h1 := hm y (h.sub y hy)
  obtain ⟨z, hz, e2⟩ := hx
  have h2 := hg z (h.has hz)
  omega
theorem box_box {a b : Pt} {p : List Pt} (h : Hl (boxP a b) p) (hV : validB p = true) (hx : a.1 ≤ b.1) (hy : a.2 ≤ b.2) : boxLo p = a ∧ boxHi p = b := by
  have hb : ∀ x, hasB p x = true → (b8 p).has x := fun x hx => has_b8 hV hx
  have mem : ∀ y ∈ boxP a b, y = a ∨ y = (b.1, a.2) ∨ y = b ∨ y = (a.1, b.2) := fun y hy => by simpa [boxP] using hy
  have l1 : loB (fun p => p.1) p = a.1 := lo_of h hV (fun p => p.1) (fun x hx => (hb x hx).1) (fun y hy => by rcases mem y hy with e | e | e | e <;> rw [e] <;> (first | omega | (simp only; omega))) ⟨a, by simp [boxP], rfl⟩
  have l2 : loB (fun p => p.2) p = a.2 := lo_of h hV (fun p => p.2) (fun x hx => (hb x hx).2.2.1) (fun y hy => by rcases mem y hy with e | e | e | e <;> rw [e] <;> (first | omega | (simp only; omega))) ⟨a, by simp [boxP], rfl⟩
  have l3 : hiB (fun p => p.1) p = b.1 := hi_of h hV (fun p => p.1) (fun x hx => (hb x hx).2.1) (fun y hy => by rcases mem y hy with e | e | e | e <;> rw [e] <;> (first | omega | (simp only; omega))) ⟨b, by simp [boxP], rfl⟩
  have l4 : hiB (fun p => p.2) p = b.2 := hi_of h hV (fun p => p.2) (fun x hx => (hb x hx).2.2.2.1) (fun y hy => by rcases mem y hy with e | e | e | e <;> rw [e] <;> (first | omega | (simp only; omega))) ⟨b, by simp [boxP], rfl⟩
  constructor
  · show (loB (fun p => p.1) p, loB (fun p => p.2) p) = a
    rw [l1, l2]
  · show (hiB (fun p => p.1) p, hiB (fun p => p.2) p) = b
    rw [l3, l4]
theorem Bound_is {t : TideS} {v : Value} {x1 y1 x2 y2 n1 n2 : Int} {M : Mem} (hv : FlsV M v t.fl) (g : GoodT t x1 y1 x2 y2 n1 n2) : V.Fn Try.prog 16 [tdV t v, pt x1 y1, pt x2 y2, .int .i64 n1, .int .i64 n2] M fun rs _ =>
    ∃ f, rs = [flV f, .int .i64 0] ∧ IsJ (inB t (x1 / 10000) (x2 / 10000) (y1 / 10000) (y2 / 10000) ((n1 - t.fr) / 3600) ((n2 - t.fr) / 3600)) f :=
  (Bound_fn t v x1 y1 x2 y2 n1 n2 M hv).mono fun rs M' _ h => by
    rcases h with ⟨_, h⟩ | ⟨bad, _⟩
    · exact h
    · exact absurd g bad
/-- What the drift is for a usable edition, rectangle and time. -/
theorem Drift_is {t : TideS} {v : Value} {x1 y1 x2 y2 n1 n2 : Int} {M : Mem} {f : FlowS} (hv : FlsV M v t.fl) (g : GoodT t x1 y1 x2 y2 n1 n2) (hJ : IsJ (inB t (x1 / 10000) (x2 / 10000) (y1 / 10000) (y2 / 10000) ((n1 - t.fr) / 3600) ((n2 - t.fr) / 3600)) f) :
    V.Fn Try.prog 24 [tdV t v, pt x1 y1, pt x2 y2, .int .i64 n1, .int .i64 n2] M fun rs M' =>
    ∃ ad l c e, rs = [.slice ad l c, .int .i64 e] ∧ ((e = 3 ∨ e = 1 ∧ 100000 < n2 - n1) ∨ (e = 0 ∧ n2 - n1 ≤ 100000 ∧ placeB (carA f (n2 - n1)) = true ∧ placeB (carB f (n2 - n1)) = true ∧ ∃ p, Hl (boxP (carA f (n2 - n1)) (carB f (n2 - n1))) p ∧ validB p = true ∧ Pts M' (.slice ad l c) p)) :=
  (Drift_fn t v x1 y1 x2 y2 n1 n2 M hv).mono fun rs M' _ h => by
    rcases h with ⟨bad, _⟩ | ⟨_, f', hJ', h⟩
    · exact absurd g bad
    have e : f' = f := hJ'.unique hJ fun _ => Iff.rfl
    subst e
    rcases h with ⟨h1, rfl⟩ | ⟨_, _, rfl⟩ | ⟨h1, pA, pB, u, p, e, rfl, hr, hu⟩
    · exact ⟨_, _, _, _, rfl, .inl (.inr ⟨rfl, h1⟩)⟩
    · exact ⟨_, _, _, _, rfl, .inl (.inl rfl)⟩
    · obtain ⟨q, k1, k2, k3⟩ := box_hull pA pB
      rw [k1] at hr
      cases hr
      obtain ⟨ad, c, rfl⟩ := hu.shape
      exact ⟨_, _, _, _, rfl, .inr ⟨rfl, h1, pA, pB, p, k2, k3, hu⟩⟩
theorem between_fn13 (lo hi w : Int) (M : Mem) (h : lo ≤ hi) (h1 : -5000 ≤ lo) (h2 : hi ≤ 5000) (hw : 0 ≤ w ∧ w < 65536) : V.Fn Try.prog 31 [.int .i64 lo, .int .i64 hi, .int .i64 w] M fun rs _ => ∃ r, rs = [.int .i64 r] ∧ lo ≤ r ∧ r ≤ hi := by
  have r1 := Int.tmod_nonneg (a := w) 1001 hw.1
  have r2 := Int.tmod_lt_of_pos w (b := 1001) (by omega)
  have k1 : 0 ≤ (hi - lo) * w.tmod 1001 := Int.mul_nonneg (by omega) r1
  have k2 : (hi - lo) * w.tmod 1001 ≤ (hi - lo) * 1000 := Int.mul_le_mul_of_nonneg_left (by omega) (by omega)
  have e : ((hi - lo) * w.tmod 1001).tdiv 1000 = (hi - lo) * w.tmod 1001 / 1000 := Int.tdiv_eq_ediv_of_nonneg k1
  refine Fn.of_vc cxOK Try.func31 rfl rfl rfl ?_
  repeat (first | refine VIf.tt ?_ | refine VIf.ff ?_)
  refine VArith.ok (by first | omega | (simp only; omega)) (by first | omega | (simp only; omega)) ?_
  repeat (first | refine VIf.tt ?_ | refine VIf.ff ?_)
  refine VDiv.mk (by omega) ?_
  repeat (first | refine VIf.tt ?_ | refine VIf.ff ?_)
  refine VArith.ok (by first | omega | (simp only; omega)) (by first | omega | (simp only; omega)) ?_
  repeat (first | refine VIf.tt ?_ | refine VIf.ff ?_)
  refine VDiv.mk (by omega) ?_
  repeat (first | refine VIf.tt ?_ | refine VIf.ff ?_)
  refine VArith.ok (by first | omega | (simp only; omega)) (by first | omega | (simp only; omega)) ?_
  repeat (first | refine VIf.tt ?_ | refine VIf.ff ?_)
  refine VArith.ok (by first | omega | (simp only; omega)) (by first | omega | (simp only; omega)) ?_
  repeat (first | refine VIf.tt ?_ | refine VIf.ff ?_)
  exact VFact.mk ⟨_, rfl, by omega, by omega⟩ trivial
end Go.Proofs.Ytlppfikkgcfaoaa

/- The head of the tide's laws: the example, plainly and in the program. -/
namespace Go.Proofs.Ytlppfikkgcfaoaa
open Go Go.V Go.RowKit
def exF : FlowS := ⟨0, 0, 0, 200, 300, 0, 0, 50, 60⟩
def exR : FlowS := ⟨0, 0, 0, -100, 100, -100, 100, 0, 0⟩
def exT : TideS := ⟨1, 7200, 2, exR, [exF]⟩
theorem ex_ok : tideB exT = true := by decide
theorem of_00 : ofB exT 0 0 0 = exF := rfl
theorem of_m0 : ofB exT (-1) 0 0 = exR := rfl
theorem of_01 : ofB exT 0 0 1 = exR := rfl
theorem isJ_pt {t : TideS} {x y s : Int} {f : FlowS} (h : IsJ (inB t x x y y s s) f) : f = ofB t x y s := by
  refine h.unique (IsJ.one (f := ofB t x y s) rfl rfl rfl) fun g => ?_
  constructor
  · rintro rfl
    exact ⟨x, y, s, Int.le_refl _, Int.le_refl _, Int.le_refl _, Int.le_refl _, Int.le_refl _, Int.le_refl _, rfl⟩
  · rintro ⟨x', y', s', a1, a2, a3, a4, a5, a6, rfl⟩
    obtain rfl : x' = x := by omega
    obtain rfl : y' = y := by omega
    obtain rfl : s' = s := by omega
    rfl
theorem isJ_two {f : FlowS} (h : IsJ (inB exT (-1) 0 0 0 0 0) f) : f = joinF exR exF := by
  have h2 : IsJ (fun x => x = exR ∨ x = exF) (joinF exR exF) := (IsJ.one (f := exR) rfl rfl rfl).join (IsJ.one (f := exF) rfl rfl rfl)
  refine h.unique h2 fun g => ?_
  constructor
  · rintro (rfl | rfl)
    · exact ⟨-1, 0, 0, by decide, by decide, by decide, by decide, by decide, by decide, rfl⟩
    · exact ⟨0, 0, 0, by decide, by decide, by decide, by decide, by decide, by decide, rfl⟩
  · rintro ⟨x, y, s, a1, a2, a3, a4, a5, a6, rfl⟩
    obtain rfl : y = 0 := by omega
    obtain rfl : s = 0 := by omega
    rcases (by omega : x = -1 ∨ x = 0) with rfl | rfl
    · exact .inl rfl
    · exact .inr rfl
theorem example_fn (M : Mem) : V.Fn Try.prog 37 [] M fun rs M' => ∃ v, rs = [tdV exT v] ∧ FlsV M' v exT.fl := by
  refine Fn.of_vc cxOK Try.func37 rfl rfl rfl ?_
  repeat (first | refine VIf.tt ?_ | refine VIf.ff ?_)
  refine VFz.mk fun x B M1 hM1 hx => ?_
  have hx : SlAt M1 9 x 1 ([flC exF].flatten) := hx
  have hF : FlsV M1 x exT.fl := by
    unfold FlsV Arr
    refine ⟨[flC exF], rfl, by simp [flC], hx, ?_⟩
    intro i f r hf hr
    match i, hf, hr with
    | 0, hf, hr => simp [exT] at hf hr; subst hf; exact hr.symm
  obtain ⟨ad, c, rfl, _⟩ := hF.get
  repeat (first | refine VIf.tt ?_ | refine VIf.ff ?_)
  exact VFact.mk (Exists.intro _ (And.intro rfl hF)) trivial
def segP : List Pt := [(200, 0), (300, 0)]
theorem hull_ex : hullB (boxP (200, 0) (300, 0)) = (segP, 0) := by
  have h : aroundP (boxP (200, 0) (300, 0)) = segP := around_eq (hl_of_has (by decide) (by decide) (by decide))
  unfold hullB
  rw [h, if_neg (by decide), if_neg (by decide), if_neg (by decide)]
theorem good_ex1 : GoodT exT 5 5 9999 9 7200 7300 := ⟨ex_ok, by decide, by decide, by decide, by decide, by decide, by decide, by decide⟩
theorem good_ex2 : GoodT exT (-1) 5 3 9 7200 10799 := ⟨ex_ok, by decide, by decide, by decide, by decide, by decide, by decide, by decide⟩
theorem good_ex3 : GoodT exT 0 0 0 0 0 100001 := ⟨ex_ok, by decide, by decide, by decide, by decide, by decide, by decide, by decide⟩
theorem bad_ex : ¬ GoodT exT 2 0 1 0 0 1 := fun h => absurd h.hx (by decide)
theorem drift_ex1 (v : Value) (M : Mem) (hv : FlsV M v exT.fl) : V.Fn Try.prog 24 [tdV exT v, pt 5 5, pt 9999 9, .int .i64 7200, .int .i64 7300] M fun rs M' => ∃ u, rs = [u, .int .i64 0] ∧ Pts M' u segP :=
  (Drift_fn exT v 5 5 9999 9 7200 7300 M hv).mono fun rs M' _ h => by
    rcases h with ⟨bad, _⟩ | ⟨_, f, hJ, h⟩
    · exact absurd good_ex1 bad
    have hf : f = exF := isJ_pt (x := 0) (y := 0) (s := 0) hJ
    subst hf
    rcases h with ⟨h, _⟩ | ⟨_, h, _⟩ | ⟨_, _, _, u, p, e, rfl, hh, hu⟩
    · omega
    · exact absurd h (by decide)
    · have e1 : (p, e) = (segP, 0) := hh.symm.trans hull_ex
      cases e1
      exact ⟨u, rfl, hu⟩
theorem bound_ex2 (v : Value) (M : Mem) (hv : FlsV M v exT.fl) : V.Fn Try.prog 16 [tdV exT v, pt (-1) 5, pt 3 9, .int .i64 7200, .int .i64 10799] M fun rs _ => rs = [flV (joinF exR exF), .int .i64 0] :=
  (Bound_fn exT v (-1) 5 3 9 7200 10799 M hv).mono fun rs M' _ h => by
    rcases h with ⟨_, f, rfl, hJ⟩ | ⟨bad, _⟩
    · have hf : f = joinF exR exF := isJ_two hJ
      rw [hf]
    · exact absurd good_ex2 bad
theorem at_ex3 (v : Value) (M : Mem) (hv : FlsV M v exT.fl) : V.Fn Try.prog 17 [tdV exT v, pt 5 5, .int .i64 10800] M fun rs _ => rs = [flV exR, .int .i64 0] :=
  (At_fn exT v 5 5 10800 M hv).mono fun rs M' _ h => by
    rw [if_pos (by decide)] at h
    exact h
theorem at_ex4 (v : Value) (M : Mem) (hv : FlsV M v exT.fl) : V.Fn Try.prog 17 [tdV exT v, pt 5 5, .int .i64 10799] M fun rs _ => rs = [flV exF, .int .i64 0] :=
  (At_fn exT v 5 5 10799 M hv).mono fun rs M' _ h => by
    rw [if_pos (by decide)] at h
    exact h
theorem bound_ex5 (v : Value) (M : Mem) (hv : FlsV M v exT.fl) : V.Fn Try.prog 16 [tdV exT v, pt 2 0, pt 1 0, .int .i64 0, .int .i64 1] M fun rs _ => rs = [flV zeroF, .int .i64 1] :=
  (Bound_fn exT v 2 0 1 0 0 1 M hv).mono fun rs M' _ h => by
    rcases h with ⟨good, _⟩ | ⟨_, h⟩
    · exact absurd good bad_ex
    · exact h
theorem drift_ex6 (v : Value) (M : Mem) (hv : FlsV M v exT.fl) : V.Fn Try.prog 24 [tdV exT v, pt 0 0, pt 0 0, .int .i64 0, .int .i64 100001] M fun rs _ => rs = [.slice none 0 0, .int .i64 1] :=
  (Drift_fn exT v 0 0 0 0 0 100001 M hv).mono fun rs M' _ h => by
    rcases h with ⟨bad, _⟩ | ⟨_, f, _, h⟩
    · exact absurd good_ex3 bad
    rcases h with ⟨_, h⟩ | ⟨h, _⟩ | ⟨h, _⟩
    · exact h
    · omega
    · omega
set_option maxRecDepth 20000 in
set_option maxHeartbeats 2000000 in
theorem head13_fn (M : Mem) : V.Fn Try.prog 14 [] M fun rs _ => rs = [.bool true] := by
  refine Fn.of_vc cxOK Try.func14 rfl rfl rfl ?_
  repeat (first | refine VIf.tt ?_ | refine VIf.ff ?_)
  refine VFn.mk _ (example_fn M) ?_
  rintro rs M1 hM1 ⟨v, rfl, hv⟩
  obtain ⟨ad, c, rfl, hm, hrd⟩ := hv.get
  repeat (first | refine VIf.tt ?_ | refine VIf.ff ?_)
  refine VDraw.frz [1] (by kernel_rfl) ?_
  repeat (first | refine VIf.tt ?_ | refine VIf.ff ?_)
  refine VFzB.mk fun z D N hN hD => ?_
  have hD : N D = some (.cells (tdC exT (.slice ad exT.fl.length c)) 28 (0, 0)) := hD
  have rd : ∀ M', N.le M' → ∀ (j : Nat) u, (tdC exT (.slice ad exT.fl.length c)).toList[j]? = some u → M'.cell ((⟨D, 0, none⟩ : Addr).add j) = some u := fun M' h j u hu => cellAt (h _ _ hD) j (by simpa using hu)
  repeat (first | refine VIf.tt ?_ | refine VIf.ff ?_)
  refine VReads.mk (tdC exT (.slice ad exT.fl.length c)).toList rfl (rd N (Mem.le_refl _)) ?_
  repeat (first | refine VIf.tt ?_ | refine VIf.ff ?_)
  refine VFn.p (at_fn13 5 5 N) ?_
  repeat (first | refine VIf.tt ?_ | refine VIf.ff ?_)
  refine VFn.p (at_fn13 9999 9 N) ?_
  have hvN := hv.le hN
  repeat (first | refine VIf.tt ?_ | refine VIf.ff ?_)
  refine VFn.mk _ (drift_ex1 _ N hvN) ?_
  rintro rs M2 hM2 ⟨u, rfl, hu⟩
  obtain ⟨ud, uc, rfl⟩ := hu.shape
  have leM2 := hM2
  have hvM2 := hvN.le hM2
  repeat (first | refine VIf.tt ?_ | refine VIf.ff ?_)
  refine VDraw.code ?_
  repeat (first | refine VIf.tt ?_ | refine VIf.ff ?_)
  refine VCode.draws cxOK [] (by kernel_rfl) Mem
    (fun M' => ⟨[(1, .v (.pointer (some ⟨D, 0, none⟩))), (2, .v (.slice ud segP.length uc)), (3, .v (.int .i64 0)), (4, .box 0 0), (5, .v (.int .i64 0))], [(0, some (.box 25 [.v (.int .i64 (joinF exR exF).x), .v (.int .i64 (joinF exR exF).y), .v (.int .i64 (joinF exR exF).s), .v (.int .i64 (joinF exR exF).ul), .v (.int .i64 (joinF exR exF).uh), .v (.int .i64 (joinF exR exF).vl), .v (.int .i64 (joinF exR exF).vh), .v (.int .i64 (joinF exR exF).hl), .v (.int .i64 (joinF exR exF).hh)]))], 1, M', 115, ⟨fun _ => none, none, fun _ => none⟩⟩)
    (fun M' => M2.le M') ?_ ?_
  · repeat (first | refine VIf.tt ?_ | refine VIf.ff ?_)
    refine VReads.mk (tdC exT (.slice ad exT.fl.length c)).toList rfl (rd M2 leM2) ?_
    refine VBoth.mk ?_ ?_
    · repeat (first | refine VIf.tt ?_ | refine VIf.ff ?_)
      refine VFn.p (at_fn13 (-1) 5 M2) ?_
      repeat (first | refine VIf.tt ?_ | refine VIf.ff ?_)
      refine VFact.mk (by first | exact Mem.le_refl _ | assumption) ?_
      refine VBoth.mk ?_ ?_
      · repeat (first | refine VIf.tt ?_ | refine VIf.ff ?_)
        refine VFn.p (at_fn13 3 9 M2) ?_
        repeat (first | refine VIf.tt ?_ | refine VIf.ff ?_)
        refine VFact.mk (by first | exact Mem.le_refl _ | assumption) ?_
        refine VBoth.mk ?_ ?_
        · repeat (first | refine VIf.tt ?_ | refine VIf.ff ?_)
          refine VFn.mk _ (bound_ex2 _ M2 hvM2) ?_
          rintro rs M3 hM3 rfl
          repeat (first | refine VIf.tt ?_ | refine VIf.ff ?_)
          refine VFact.mk (by first | exact Mem.le_refl _ | assumption) ?_
          repeat (first | refine VIf.tt ?_ | refine VIf.ff ?_)
          refine VFact.mk (by first | exact Mem.le_refl _ | assumption) ?_
          repeat (first | refine VIf.tt ?_ | refine VIf.ff ?_)
          refine VFact.mk (by first | exact Mem.le_refl _ | assumption) ?_
          exact ⟨M3, hM3, (Wk.mk' (fun k => if k = 0 then 1 else k) (by repeat' constructor) (by repeat' constructor) (by simp [injOK]) rfl rfl rfl)⟩
        · repeat (first | refine VIf.tt ?_ | refine VIf.ff ?_)
          refine VFact.mk (by first | exact Mem.le_refl _ | assumption) ?_
          repeat (first | refine VIf.tt ?_ | refine VIf.ff ?_)
          refine VFn.mk _ (bound_ex2 _ M2 hvM2) ?_
          rintro rs M3 hM3 rfl
          repeat (first | refine VIf.tt ?_ | refine VIf.ff ?_)
          refine VFact.mk (by first | exact Mem.le_refl _ | assumption) ?_
          repeat (first | refine VIf.tt ?_ | refine VIf.ff ?_)
          refine VFact.mk (by first | exact Mem.le_refl _ | assumption) ?_
          exact ⟨M3, hM3, (Wk.mk' (fun k => if k = 0 then 1 else k) (by repeat' constructor) (by repeat' constructor) (by simp [injOK]) rfl rfl rfl)⟩
      · repeat (first | refine VIf.tt ?_ | refine VIf.ff ?_)
        refine VFact.mk (by first | exact Mem.le_refl _ | assumption) ?_
        repeat (first | refine VIf.tt ?_ | refine VIf.ff ?_)
        refine VFn.p (at_fn13 3 9 M2) ?_
        repeat (first | refine VIf.tt ?_ | refine VIf.ff ?_)
        refine VFact.mk (by first | exact Mem.le_refl _ | assumption) ?_
        repeat (first | refine VIf.tt ?_ | refine VIf.ff ?_)
        refine VFn.mk _ (bound_ex2 _ M2 hvM2) ?_
        rintro rs M3 hM3 rfl
        repeat (first | refine VIf.tt ?_ | refine VIf.ff ?_)
        refine VFact.mk (by first | exact Mem.le_refl _ | assumption) ?_
        repeat (first | refine VIf.tt ?_ | refine VIf.ff ?_)
        refine VFact.mk (by first | exact Mem.le_refl _ | assumption) ?_
        exact ⟨M3, hM3, (Wk.mk' (fun k => if k = 0 then 1 else k) (by repeat' constructor) (by repeat' constructor) (by simp [injOK]) rfl rfl rfl)⟩
    · repeat (first | refine VIf.tt ?_ | refine VIf.ff ?_)
      refine VFact.mk (by first | exact Mem.le_refl _ | assumption) ?_
      repeat (first | refine VIf.tt ?_ | refine VIf.ff ?_)
      refine VFn.p (at_fn13 (-1) 5 M2) ?_
      repeat (first | refine VIf.tt ?_ | refine VIf.ff ?_)
      refine VFact.mk (by first | exact Mem.le_refl _ | assumption) ?_
      repeat (first | refine VIf.tt ?_ | refine VIf.ff ?_)
      refine VFn.p (at_fn13 3 9 M2) ?_
      repeat (first | refine VIf.tt ?_ | refine VIf.ff ?_)
      refine VFact.mk (by first | exact Mem.le_refl _ | assumption) ?_
      repeat (first | refine VIf.tt ?_ | refine VIf.ff ?_)
      refine VFn.mk _ (bound_ex2 _ M2 hvM2) ?_
      rintro rs M3 hM3 rfl
      repeat (first | refine VIf.tt ?_ | refine VIf.ff ?_)
      refine VFact.mk (by first | exact Mem.le_refl _ | assumption) ?_
      repeat (first | refine VIf.tt ?_ | refine VIf.ff ?_)
      refine VFact.mk (by first | exact Mem.le_refl _ | assumption) ?_
      exact ⟨M3, hM3, (Wk.mk' (fun k => if k = 0 then 1 else k) (by repeat' constructor) (by repeat' constructor) (by simp [injOK]) rfl rfl rfl)⟩
  rintro M3 m hM3
  have hM3 : M2.le M3 := hM3
  have leM3 := leM2.trans hM3
  have hvM3 := hvN.le leM3
  repeat (first | refine VIf.tt ?_ | refine VIf.ff ?_)
  refine VDraw.code ?_
  repeat (first | refine VIf.tt ?_ | refine VIf.ff ?_)
  refine VCode.draws cxOK [] (by kernel_rfl) Mem
    (fun M' => ⟨[(1, .v (.pointer (some ⟨D, 0, none⟩))), (2, .v (.slice ud segP.length uc)), (3, .v (.int .i64 0)), (4, .box 0 0), (5, .v (.int .i64 0)), (6, .box 1 0), (7, .v (.int .i64 0))], [(1, some (.box 25 [.v (.int .i64 (exR).x), .v (.int .i64 (exR).y), .v (.int .i64 (exR).s), .v (.int .i64 (exR).ul), .v (.int .i64 (exR).uh), .v (.int .i64 (exR).vl), .v (.int .i64 (exR).vh), .v (.int .i64 (exR).hl), .v (.int .i64 (exR).hh)])), (0, some (.box 25 [.v (.int .i64 (joinF exR exF).x), .v (.int .i64 (joinF exR exF).y), .v (.int .i64 (joinF exR exF).s), .v (.int .i64 (joinF exR exF).ul), .v (.int .i64 (joinF exR exF).uh), .v (.int .i64 (joinF exR exF).vl), .v (.int .i64 (joinF exR exF).vh), .v (.int .i64 (joinF exR exF).hl), .v (.int .i64 (joinF exR exF).hh)]))], 2, M', 115, ⟨fun _ => none, none, fun _ => none⟩⟩)
    (fun M' => M3.le M') ?_ ?_
  · repeat (first | refine VIf.tt ?_ | refine VIf.ff ?_)
    refine VReads.mk (tdC exT (.slice ad exT.fl.length c)).toList rfl (rd M3 leM3) ?_
    refine VBoth.mk ?_ ?_
    · repeat (first | refine VIf.tt ?_ | refine VIf.ff ?_)
      refine VFn.p (at_fn13 5 5 M3) ?_
      repeat (first | refine VIf.tt ?_ | refine VIf.ff ?_)
      refine VFact.mk (by first | exact Mem.le_refl _ | assumption) ?_
      refine VBoth.mk ?_ ?_
      · repeat (first | refine VIf.tt ?_ | refine VIf.ff ?_)
        refine VFn.mk _ (at_ex3 _ M3 hvM3) ?_
        rintro rs M4 hM4 rfl
        repeat (first | refine VIf.tt ?_ | refine VIf.ff ?_)
        refine VFact.mk (by first | exact Mem.le_refl _ | assumption) ?_
        repeat (first | refine VIf.tt ?_ | refine VIf.ff ?_)
        refine VFact.mk (by first | exact Mem.le_refl _ | assumption) ?_
        repeat (first | refine VIf.tt ?_ | refine VIf.ff ?_)
        refine VFact.mk (by first | exact Mem.le_refl _ | assumption) ?_
        exact ⟨M4, hM4, (Wk.mk' id (by repeat' constructor) (by repeat' constructor) (injOK_id _) rfl rfl rfl)⟩
      · repeat (first | refine VIf.tt ?_ | refine VIf.ff ?_)
        refine VFact.mk (by first | exact Mem.le_refl _ | assumption) ?_
        repeat (first | refine VIf.tt ?_ | refine VIf.ff ?_)
        refine VFn.mk _ (at_ex3 _ M3 hvM3) ?_
        rintro rs M4 hM4 rfl
        repeat (first | refine VIf.tt ?_ | refine VIf.ff ?_)
        refine VFact.mk (by first | exact Mem.le_refl _ | assumption) ?_
        repeat (first | refine VIf.tt ?_ | refine VIf.ff ?_)
        refine VFact.mk (by first | exact Mem.le_refl _ | assumption) ?_
        exact ⟨M4, hM4, (Wk.mk' id (by repeat' constructor) (by repeat' constructor) (injOK_id _) rfl rfl rfl)⟩
    · repeat (first | refine VIf.tt ?_ | refine VIf.ff ?_)
      refine VFact.mk (by first | exact Mem.le_refl _ | assumption) ?_
      repeat (first | refine VIf.tt ?_ | refine VIf.ff ?_)
      refine VFn.p (at_fn13 5 5 M3) ?_
      repeat (first | refine VIf.tt ?_ | refine VIf.ff ?_)
      refine VFact.mk (by first | exact Mem.le_refl _ | assumption) ?_
      repeat (first | refine VIf.tt ?_ | refine VIf.ff ?_)
      refine VFn.mk _ (at_ex3 _ M3 hvM3) ?_
      rintro rs M4 hM4 rfl
      repeat (first | refine VIf.tt ?_ | refine VIf.ff ?_)
      refine VFact.mk (by first | exact Mem.le_refl _ | assumption) ?_
      repeat (first | refine VIf.tt ?_ | refine VIf.ff ?_)
      refine VFact.mk (by first | exact Mem.le_refl _ | assumption) ?_
      exact ⟨M4, hM4, (Wk.mk' id (by repeat' constructor) (by repeat' constructor) (injOK_id _) rfl rfl rfl)⟩
  rintro M4 m hM4
  have hM4 : M3.le M4 := hM4
  have leM4 := leM3.trans hM4
  have hvM4 := hvN.le leM4
  repeat (first | refine VIf.tt ?_ | refine VIf.ff ?_)
  refine VDraw.code ?_
  repeat (first | refine VIf.tt ?_ | refine VIf.ff ?_)
  refine VCode.draws cxOK [] (by kernel_rfl) Mem
    (fun M' => ⟨[(1, .v (.pointer (some ⟨D, 0, none⟩))), (2, .v (.slice ud segP.length uc)), (3, .v (.int .i64 0)), (4, .box 0 0), (5, .v (.int .i64 0)), (6, .box 1 0), (7, .v (.int .i64 0)), (8, .box 2 0), (9, .v (.int .i64 0))], [(2, some (.box 25 [.v (.int .i64 (exF).x), .v (.int .i64 (exF).y), .v (.int .i64 (exF).s), .v (.int .i64 (exF).ul), .v (.int .i64 (exF).uh), .v (.int .i64 (exF).vl), .v (.int .i64 (exF).vh), .v (.int .i64 (exF).hl), .v (.int .i64 (exF).hh)])), (1, some (.box 25 [.v (.int .i64 (exR).x), .v (.int .i64 (exR).y), .v (.int .i64 (exR).s), .v (.int .i64 (exR).ul), .v (.int .i64 (exR).uh), .v (.int .i64 (exR).vl), .v (.int .i64 (exR).vh), .v (.int .i64 (exR).hl), .v (.int .i64 (exR).hh)])), (0, some (.box 25 [.v (.int .i64 (joinF exR exF).x), .v (.int .i64 (joinF exR exF).y), .v (.int .i64 (joinF exR exF).s), .v (.int .i64 (joinF exR exF).ul), .v (.int .i64 (joinF exR exF).uh), .v (.int .i64 (joinF exR exF).vl), .v (.int .i64 (joinF exR exF).vh), .v (.int .i64 (joinF exR exF).hl), .v (.int .i64 (joinF exR exF).hh)]))], 3, M', 115, ⟨fun _ => none, none, fun _ => none⟩⟩)
    (fun M' => M4.le M') ?_ ?_
  · repeat (first | refine VIf.tt ?_ | refine VIf.ff ?_)
    refine VReads.mk (tdC exT (.slice ad exT.fl.length c)).toList rfl (rd M4 leM4) ?_
    refine VBoth.mk ?_ ?_
    · repeat (first | refine VIf.tt ?_ | refine VIf.ff ?_)
      refine VFn.p (at_fn13 5 5 M4) ?_
      repeat (first | refine VIf.tt ?_ | refine VIf.ff ?_)
      refine VFact.mk (by first | exact Mem.le_refl _ | assumption) ?_
      refine VBoth.mk ?_ ?_
      · repeat (first | refine VIf.tt ?_ | refine VIf.ff ?_)
        refine VFn.mk _ (at_ex4 _ M4 hvM4) ?_
        rintro rs M5 hM5 rfl
        repeat (first | refine VIf.tt ?_ | refine VIf.ff ?_)
        refine VFact.mk (by first | exact Mem.le_refl _ | assumption) ?_
        repeat (first | refine VIf.tt ?_ | refine VIf.ff ?_)
        refine VFact.mk (by first | exact Mem.le_refl _ | assumption) ?_
        repeat (first | refine VIf.tt ?_ | refine VIf.ff ?_)
        refine VFact.mk (by first | exact Mem.le_refl _ | assumption) ?_
        exact ⟨M5, hM5, (Wk.mk' id (by repeat' constructor) (by repeat' constructor) (injOK_id _) rfl rfl rfl)⟩
      · repeat (first | refine VIf.tt ?_ | refine VIf.ff ?_)
        refine VFact.mk (by first | exact Mem.le_refl _ | assumption) ?_
        repeat (first | refine VIf.tt ?_ | refine VIf.ff ?_)
        refine VFn.mk _ (at_ex4 _ M4 hvM4) ?_
        rintro rs M5 hM5 rfl
        repeat (first | refine VIf.tt ?_ | refine VIf.ff ?_)
        refine VFact.mk (by first | exact Mem.le_refl _ | assumption) ?_
        repeat (first | refine VIf.tt ?_ | refine VIf.ff ?_)
        refine VFact.mk (by first | exact Mem.le_refl _ | assumption) ?_
        exact ⟨M5, hM5, (Wk.mk' id (by repeat' constructor) (by repeat' constructor) (injOK_id _) rfl rfl rfl)⟩
    · repeat (first | refine VIf.tt ?_ | refine VIf.ff ?_)
      refine VFact.mk (by first | exact Mem.le_refl _ | assumption) ?_
      repeat (first | refine VIf.tt ?_ | refine VIf.ff ?_)
      refine VFn.p (at_fn13 5 5 M4) ?_
      repeat (first | refine VIf.tt ?_ | refine VIf.ff ?_)
      refine VFact.mk (by first | exact Mem.le_refl _ | assumption) ?_
      repeat (first | refine VIf.tt ?_ | refine VIf.ff ?_)
      refine VFn.mk _ (at_ex4 _ M4 hvM4) ?_
      rintro rs M5 hM5 rfl
      repeat (first | refine VIf.tt ?_ | refine VIf.ff ?_)
      refine VFact.mk (by first | exact Mem.le_refl _ | assumption) ?_
      repeat (first | refine VIf.tt ?_ | refine VIf.ff ?_)
      refine VFact.mk (by first | exact Mem.le_refl _ | assumption) ?_
      exact ⟨M5, hM5, (Wk.mk' id (by repeat' constructor) (by repeat' constructor) (injOK_id _) rfl rfl rfl)⟩
  rintro M5 m hM5
  have hM5 : M4.le M5 := hM5
  have leM5 := leM4.trans hM5
  have hvM5 := hvN.le leM5
  repeat (first | refine VIf.tt ?_ | refine VIf.ff ?_)
  refine VDraw.code ?_
  repeat (first | refine VIf.tt ?_ | refine VIf.ff ?_)
  refine VCode.draws cxOK [] (by kernel_rfl) Mem
    (fun M' => ⟨[(1, .v (.pointer (some ⟨D, 0, none⟩))), (2, .v (.slice ud segP.length uc)), (3, .v (.int .i64 0)), (4, .box 0 0), (5, .v (.int .i64 0)), (6, .box 1 0), (7, .v (.int .i64 0)), (8, .box 2 0), (9, .v (.int .i64 0)), (11, .v (.int .i64 1))], [(2, some (.box 25 [.v (.int .i64 (exF).x), .v (.int .i64 (exF).y), .v (.int .i64 (exF).s), .v (.int .i64 (exF).ul), .v (.int .i64 (exF).uh), .v (.int .i64 (exF).vl), .v (.int .i64 (exF).vh), .v (.int .i64 (exF).hl), .v (.int .i64 (exF).hh)])), (1, some (.box 25 [.v (.int .i64 (exR).x), .v (.int .i64 (exR).y), .v (.int .i64 (exR).s), .v (.int .i64 (exR).ul), .v (.int .i64 (exR).uh), .v (.int .i64 (exR).vl), .v (.int .i64 (exR).vh), .v (.int .i64 (exR).hl), .v (.int .i64 (exR).hh)])), (0, some (.box 25 [.v (.int .i64 (joinF exR exF).x), .v (.int .i64 (joinF exR exF).y), .v (.int .i64 (joinF exR exF).s), .v (.int .i64 (joinF exR exF).ul), .v (.int .i64 (joinF exR exF).uh), .v (.int .i64 (joinF exR exF).vl), .v (.int .i64 (joinF exR exF).vh), .v (.int .i64 (joinF exR exF).hl), .v (.int .i64 (joinF exR exF).hh)]))], 3, M', 115, ⟨fun _ => none, none, fun _ => none⟩⟩)
    (fun M' => M5.le M') ?_ ?_
  · repeat (first | refine VIf.tt ?_ | refine VIf.ff ?_)
    refine VReads.mk (tdC exT (.slice ad exT.fl.length c)).toList rfl (rd M5 leM5) ?_
    refine VBoth.mk ?_ ?_
    · repeat (first | refine VIf.tt ?_ | refine VIf.ff ?_)
      refine VFn.p (at_fn13 2 0 M5) ?_
      repeat (first | refine VIf.tt ?_ | refine VIf.ff ?_)
      refine VFact.mk (by first | exact Mem.le_refl _ | assumption) ?_
      refine VBoth.mk ?_ ?_
      · repeat (first | refine VIf.tt ?_ | refine VIf.ff ?_)
        refine VFn.p (at_fn13 1 0 M5) ?_
        repeat (first | refine VIf.tt ?_ | refine VIf.ff ?_)
        refine VFact.mk (by first | exact Mem.le_refl _ | assumption) ?_
        refine VBoth.mk ?_ ?_
        · repeat (first | refine VIf.tt ?_ | refine VIf.ff ?_)
          refine VFn.mk _ (bound_ex5 _ M5 hvM5) ?_
          rintro rs M6 hM6 rfl
          repeat (first | refine VIf.tt ?_ | refine VIf.ff ?_)
          refine VFact.mk (by first | exact Mem.le_refl _ | assumption) ?_
          repeat (first | refine VIf.tt ?_ | refine VIf.ff ?_)
          refine VFact.mk (by first | exact Mem.le_refl _ | assumption) ?_
          repeat (first | refine VIf.tt ?_ | refine VIf.ff ?_)
          refine VFact.mk (by first | exact Mem.le_refl _ | assumption) ?_
          exact ⟨M6, hM6, (Wk.mk' id (by repeat' constructor) (by repeat' constructor) (injOK_id _) rfl rfl rfl)⟩
        · repeat (first | refine VIf.tt ?_ | refine VIf.ff ?_)
          refine VFact.mk (by first | exact Mem.le_refl _ | assumption) ?_
          repeat (first | refine VIf.tt ?_ | refine VIf.ff ?_)
          refine VFn.mk _ (bound_ex5 _ M5 hvM5) ?_
          rintro rs M6 hM6 rfl
          repeat (first | refine VIf.tt ?_ | refine VIf.ff ?_)
          refine VFact.mk (by first | exact Mem.le_refl _ | assumption) ?_
          repeat (first | refine VIf.tt ?_ | refine VIf.ff ?_)
          refine VFact.mk (by first | exact Mem.le_refl _ | assumption) ?_
          exact ⟨M6, hM6, (Wk.mk' id (by repeat' constructor) (by repeat' constructor) (injOK_id _) rfl rfl rfl)⟩
      · repeat (first | refine VIf.tt ?_ | refine VIf.ff ?_)
        refine VFact.mk (by first | exact Mem.le_refl _ | assumption) ?_
        repeat (first | refine VIf.tt ?_ | refine VIf.ff ?_)
        refine VFn.p (at_fn13 1 0 M5) ?_
        repeat (first | refine VIf.tt ?_ | refine VIf.ff ?_)
        refine VFact.mk (by first | exact Mem.le_refl _ | assumption) ?_
        repeat (first | refine VIf.tt ?_ | refine VIf.ff ?_)
        refine VFn.mk _ (bound_ex5 _ M5 hvM5) ?_
        rintro rs M6 hM6 rfl
        repeat (first | refine VIf.tt ?_ | refine VIf.ff ?_)
        refine VFact.mk (by first | exact Mem.le_refl _ | assumption) ?_
        repeat (first | refine VIf.tt ?_ | refine VIf.ff ?_)
        refine VFact.mk (by first | exact Mem.le_refl _ | assumption) ?_
        exact ⟨M6, hM6, (Wk.mk' id (by repeat' constructor) (by repeat' constructor) (injOK_id _) rfl rfl rfl)⟩
    · repeat (first | refine VIf.tt ?_ | refine VIf.ff ?_)
      refine VFact.mk (by first | exact Mem.le_refl _ | assumption) ?_
      repeat (first | refine VIf.tt ?_ | refine VIf.ff ?_)
      refine VFn.p (at_fn13 2 0 M5) ?_
      repeat (first | refine VIf.tt ?_ | refine VIf.ff ?_)
      refine VFact.mk (by first | exact Mem.le_refl _ | assumption) ?_
      repeat (first | refine VIf.tt ?_ | refine VIf.ff ?_)
      refine VFn.p (at_fn13 1 0 M5) ?_
      repeat (first | refine VIf.tt ?_ | refine VIf.ff ?_)
      refine VFact.mk (by first | exact Mem.le_refl _ | assumption) ?_
      repeat (first | refine VIf.tt ?_ | refine VIf.ff ?_)
      refine VFn.mk _ (bound_ex5 _ M5 hvM5) ?_
      rintro rs M6 hM6 rfl
      repeat (first | refine VIf.tt ?_ | refine VIf.ff ?_)
      refine VFact.mk (by first | exact Mem.le_refl _ | assumption) ?_
      repeat (first | refine VIf.tt ?_ | refine VIf.ff ?_)
      refine VFact.mk (by first | exact Mem.le_refl _ | assumption) ?_
      exact ⟨M6, hM6, (Wk.mk' id (by repeat' constructor) (by repeat' constructor) (injOK_id _) rfl rfl rfl)⟩
  rintro M6 m hM6
  have hM6 : M5.le M6 := hM6
  have leM6 := leM5.trans hM6
  have hvM6 := hvN.le leM6
  repeat (first | refine VIf.tt ?_ | refine VIf.ff ?_)
  refine VDraw.go (by kernel_rfl) ?_
  repeat (first | refine VIf.tt ?_ | refine VIf.ff ?_)
  refine VReads.mk (tdC exT (.slice ad exT.fl.length c)).toList rfl (rd M6 leM6) ?_
  repeat (first | refine VIf.tt ?_ | refine VIf.ff ?_)
  refine VFn.p (at_fn13 0 0 M6) ?_
  repeat (first | refine VIf.tt ?_ | refine VIf.ff ?_)
  refine VFn.p (at_fn13 0 0 M6) ?_
  repeat (first | refine VIf.tt ?_ | refine VIf.ff ?_)
  refine VFn.mk _ (drift_ex6 _ M6 hvM6) ?_
  rintro rs M7 hM7 rfl
  have leM7 := leM6.trans hM7
  have hvM7 := hvN.le leM7
  repeat (first | refine VIf.tt ?_ | refine VIf.ff ?_)
  repeat (first | refine VIf.tt ?_ | refine VIf.ff ?_)
  refine VReads.mk (tdC exT (.slice ad exT.fl.length c)).toList rfl (rd M7 leM7) ?_
  repeat (first | refine VIf.tt ?_ | refine VIf.ff ?_)
  refine VFn.mk _ (validT_fn exT _ M7 hvM7) ?_
  rintro rs M8 hM8 rfl
  have leM8 := leM7.trans hM8
  have hz : FlsV M8 (.slice none 0 0) [] := by
    unfold FlsV Arr
    exact ⟨[], rfl, by simp, SlAt.nil M8 9, by simp⟩
  repeat (first | refine VIf.tt ?_ | refine VIf.ff ?_)
  refine VFn.mk _ (validT_fn ⟨0, 0, 0, zeroF, []⟩ (.slice none 0 0) M8 hz) ?_
  rintro rs M9 hM9 rfl
  have leM9 := leM8.trans hM9
  repeat (first | refine VIf.tt ?_ | refine VIf.ff ?_)
  refine VDraw.go (by kernel_rfl) ?_
  repeat (first | refine VIf.tt ?_ | refine VIf.ff ?_)
  refine VFn.p (at_fn13 200 0 M9) ?_
  repeat (first | refine VIf.tt ?_ | refine VIf.ff ?_)
  refine VFn.p (at_fn13 300 0 M9) ?_
  repeat (first | refine VIf.tt ?_ | refine VIf.ff ?_)
  refine VFz.mk fun y B M10 hM10 hy => ?_
  have hy : Pts M10 y segP := hy
  have leM10 := leM9.trans hM10
  have hu10 : Pts M10 (.slice ud segP.length uc) segP := hu.le (((((((hM3.trans hM4).trans hM5).trans hM6).trans hM7).trans hM8).trans hM9).trans hM10)
  have hS := Same_fn _ y segP segP M10 hu10 hy
  rw [decide_eq_true rfl] at hS
  repeat (first | refine VIf.tt ?_ | refine VIf.ff ?_)
  refine VFn.p hS ?_
  repeat (first | refine VIf.tt ?_ | refine VIf.ff ?_)
  repeat (first | refine VIf.tt ?_ | refine VIf.ff ?_)
  refine VReads.mk (flC exR) rfl (fun j u hj => ?_) ?_
  · have := rd M10 leM10 (3 + j) u (by
      match j, hj with
      | 0, hj => exact hj
      | 1, hj => exact hj
      | 2, hj => exact hj
      | 3, hj => exact hj
      | 4, hj => exact hj
      | 5, hj => exact hj
      | 6, hj => exact hj
      | 7, hj => exact hj
      | 8, hj => exact hj)
    rw [Addr.add_add]; exact this
  repeat (first | refine VIf.tt ?_ | refine VIf.ff ?_)
  obtain ⟨ad', ead, hr⟩ := hrd M10 (hN.trans leM10) 0 (by decide)
  repeat (first | refine VIf.tt ?_ | refine VIf.ff ?_)
  refine VRead.mk _ (cellAt (leM10 _ _ hD) 12 rfl) ?_
  repeat (first | refine VIf.tt ?_ | refine VIf.ff ?_)
  refine VIdx.mk ad' 0 ead rfl (by decide) ?_
  repeat (first | refine VIf.tt ?_ | refine VIf.ff ?_)
  refine VReads.mk (flC exF) rfl hr ?_
  repeat (first | refine VIf.tt ?_ | refine VIf.ff ?_)
  exact VFact.mk (congrArg (fun b => [Value.bool b]) (by decide)) trivial
end Go.Proofs.Ytlppfikkgcfaoaa

/- TideElsewhere: a further flow of another block, or another slot, changes no bounds. No conditions beyond the statement's own. -/
namespace Go.Proofs.Ytlppfikkgcfaoaa.tideElsewhere
open Go Go.V Go.RowKit
def cellsF (l : List FlowS) : List Value := (l.map flC).flatten
theorem cellsF_snoc (l : List FlowS) (f : FlowS) : cellsF (l ++ [f]) = cellsF l ++ (flC f ++ []) := by simp [cellsF]
theorem FlsV.of {M : Mem} {v : Value} {l : List FlowS} (h : SlAt M 9 v l.length (cellsF l)) : FlsV M v l := by
  refine ⟨l.map flC, by simp, ?_, h, ?_⟩
  · intro r hr
    obtain ⟨f, _, rfl⟩ := List.mem_map.1 hr
    rfl
  · intro i f r hf hr
    rw [List.getElem?_map, hf] at hr
    simp at hr
    exact hr.symm
/-- What was taken so far, with the further flow in it, or not. -/
def Ins (l : List FlowS) (f : FlowS) (i : Nat) (done : Bool) (L : List FlowS) : Prop := if done = true then ∃ a b, l.take i = a ++ b ∧ L = a ++ f :: b else L = l.take i
theorem ins_len {l : List FlowS} {f : FlowS} {i : Nat} {done : Bool} {L : List FlowS} (h : Ins l f i done L) : L.length ≤ l.length + 1 := by
  unfold Ins at h
  split at h
  · obtain ⟨a, b, h1, rfl⟩ := h
    have := congrArg List.length h1
    rw [List.length_take, List.length_append] at this
    rw [List.length_append, List.length_cons]; omega
  · subst h; rw [List.length_take]; omega
theorem take_gf {l : List FlowS} {i : Nat} (h : i < l.length) : l.take (i + 1) = l.take i ++ [gf l i] := by
  rw [List.take_add_one, List.getElem?_eq_getElem h]; simp [gf, h]
theorem ins_step {l : List FlowS} {f : FlowS} {i : Nat} {done : Bool} {L : List FlowS} (h : Ins l f i done L) (hi : i < l.length) : Ins l f (i + 1) done (L ++ [gf l i]) := by
  unfold Ins at *
  rw [take_gf hi]
  split
  · rename_i hd
    rw [if_pos hd] at h
    obtain ⟨a, b, h1, rfl⟩ := h
    exact ⟨a, b ++ [gf l i], by rw [h1, List.append_assoc], by simp⟩
  · rename_i hd
    rw [if_neg hd] at h
    rw [h]
theorem ins_put {l : List FlowS} {f : FlowS} {i : Nat} {L : List FlowS} (h : Ins l f i false L) : Ins l f i true (L ++ [f]) := by
  unfold Ins at *
  rw [if_neg (by decide)] at h
  rw [if_pos rfl]
  exact ⟨l.take i, [], by simp, by rw [h]⟩
def more (t : TideS) (L : List FlowS) : TideS := ⟨t.ver, t.fr, t.sl, t.rest, L⟩
def hereB (f : FlowS) (x1 y1 x2 y2 : Int) : Bool := decide (x1 / 10000 ≤ f.x) && decide (f.x ≤ x2 / 10000) && decide (y1 / 10000 ≤ f.y) && decide (f.y ≤ y2 / 10000)
def nowB (t : TideS) (f : FlowS) (n1 n2 : Int) : Bool := decide ((n1 - t.fr) / 3600 ≤ f.s) && decide (f.s ≤ (n2 - t.fr) / 3600)
theorem of_else {t tm : TideS} {f : FlowS} {a b : List FlowS} (h1 : t.fl = a ++ b) (h2 : tm.fl = a ++ f :: b) (hr : tm.rest = t.rest) {x y s : Int} (hk : isKey x y s f = false) : ofB tm x y s = ofB t x y s := by
  unfold ofB
  rw [h1, h2, hr]
  simp [List.find?_append, List.find?_cons, hk]
theorem elsewhere {t tm : TideS} {f : FlowS} {a b : List FlowS} (h1 : t.fl = a ++ b) (h2 : tm.fl = a ++ f :: b) (hr : tm.rest = t.rest) (hf : tm.fr = t.fr) {x1 y1 x2 y2 n1 n2 : Int} {fa fb : FlowS}
    (hJa : IsJ (inB t (x1 / 10000) (x2 / 10000) (y1 / 10000) (y2 / 10000) ((n1 - t.fr) / 3600) ((n2 - t.fr) / 3600)) fa) (hJb : IsJ (inB tm (x1 / 10000) (x2 / 10000) (y1 / 10000) (y2 / 10000) ((n1 - tm.fr) / 3600) ((n2 - tm.fr) / 3600)) fb) :
    (hereB f x1 y1 x2 y2 && nowB t f n1 n2) = true ∨ fa = fb := by
  cases hb : (hereB f x1 y1 x2 y2 && nowB t f n1 n2) with
  | true => exact .inl rfl
  | false =>
    refine .inr (hJa.unique hJb fun g => ?_)
    rw [hf]
    have key : ∀ x y s, x1 / 10000 ≤ x → x ≤ x2 / 10000 → y1 / 10000 ≤ y → y ≤ y2 / 10000 → (n1 - t.fr) / 3600 ≤ s → s ≤ (n2 - t.fr) / 3600 → ofB tm x y s = ofB t x y s := fun x y s a1 a2 a3 a4 a5 a6 => by
      refine of_else h1 h2 hr ?_
      cases hk : isKey x y s f with
      | false => rfl
      | true =>
        simp only [isKey, decide_eq_true_eq] at hk
        obtain ⟨e1, e2, e3⟩ := hk
        have : (hereB f x1 y1 x2 y2 && nowB t f n1 n2) = true := by
          simp only [hereB, nowB, Bool.and_eq_true, decide_eq_true_eq]; omega
        rw [this] at hb; cases hb
    constructor
    · rintro ⟨x, y, s, a1, a2, a3, a4, a5, a6, rfl⟩
      exact ⟨x, y, s, a1, a2, a3, a4, a5, a6, key x y s a1 a2 a3 a4 a5 a6⟩
    · rintro ⟨x, y, s, a1, a2, a3, a4, a5, a6, rfl⟩
      exact ⟨x, y, s, a1, a2, a3, a4, a5, a6, (key x y s a1 a2 a3 a4 a5 a6).symm⟩
set_option maxRecDepth 20000 in
set_option maxHeartbeats 2000000 in
theorem law_fn (t : TideS) (v : Value) (f : FlowS) (x1 y1 x2 y2 n1 n2 : Int) (M : Mem) (hv : FlsV M v t.fl) (_ : i64r x1) (_ : i64r y1) (_ : i64r x2) (_ : i64r y2) (_ : i64r n1) (_ : i64r n2) :
    V.Fn Try.prog 6 [tdV t v, flV f, pt x1 y1, pt x2 y2, .int .i64 n1, .int .i64 n2] M fun rs _ => rs = [.bool true] := by
  have hv' := hv
  obtain ⟨ad, c, rfl, hm, hrd⟩ := hv.get
  refine Fn.of_vc cxOK Try.func6 rfl rfl rfl ?_
  repeat (first | refine VIf.tt ?_ | refine VIf.ff ?_)
  refine VFn.mk _ (head13_fn M) ?_
  rintro rs M1 hM1 rfl
  repeat (first | refine VIf.tt ?_ | refine VIf.ff ?_)
  refine VCode.frz [6, 7, 8, 9] ?_
  repeat (first | refine VIf.tt ?_ | refine VIf.ff ?_)
  refine VFzB.mk fun z1 D6 N1 hN1 hD6 => ?_
  repeat (first | refine VIf.tt ?_ | refine VIf.ff ?_)
  refine VFzB.mk fun z2 D7 N2 hN2 hD7 => ?_
  repeat (first | refine VIf.tt ?_ | refine VIf.ff ?_)
  refine VFzB.mk fun z3 D8 N3 hN3 hD8 => ?_
  repeat (first | refine VIf.tt ?_ | refine VIf.ff ?_)
  refine VFzB.mk fun z4 D9 N4 hN4 hD9 => ?_
  have hD6 : N1 D6 = some (.cells (tdC t (.slice ad t.fl.length c)) 28 (0, 0)) := hD6
  have hD7 : N2 D7 = some (.cells (flC f).toArray 25 (0, 0)) := hD7
  have hD8 : N3 D8 = some (.cells #[.int .i64 x1, .int .i64 y1] 30 (0, 0)) := hD8
  have hD9 : N4 D9 = some (.cells #[.int .i64 x2, .int .i64 y2] 30 (0, 0)) := hD9
  have w2 := hN3.trans hN4
  have w1 := hN2.trans w2
  have m4 := hM1.trans (hN1.trans w1)
  have hD6 := w1 _ _ hD6
  have hD7 := w2 _ _ hD7
  have hD8 := hN4 _ _ hD8
  repeat (first | refine VIf.tt ?_ | refine VIf.ff ?_)
  refine VCode.loop cxOK (Nat × List FlowS × Bool)
    (fun s => ⟨[(4, .v (.int .i64 n1)), (5, .v (.int .i64 n2)), (6, .v (.pointer (some ⟨D6, 0, none⟩))), (7, .v (.pointer (some ⟨D7, 0, none⟩))), (8, .v (.pointer (some ⟨D8, 0, none⟩))), (9, .v (.pointer (some ⟨D9, 0, none⟩))), (12, .v (.bool false)), (13, .v (.bool true)), (14, .box 0 0), (15, .v (.bool s.2.2)), (28, .v (.slice ad t.fl.length c)), (29, .v (.int .i64 t.fl.length)), (30, .v (.int .i64 s.1))],
      [(1, some (.row 25 9 s.2.1.length (cellsF s.2.1))), (0, some (.box 28 [.v (.int .i64 t.ver), .v (.int .i64 t.fr), .v (.int .i64 t.sl), .v (.int .i64 t.rest.x), .v (.int .i64 t.rest.y), .v (.int .i64 t.rest.s), .v (.int .i64 t.rest.ul), .v (.int .i64 t.rest.uh), .v (.int .i64 t.rest.vl), .v (.int .i64 t.rest.vh), .v (.int .i64 t.rest.hl), .v (.int .i64 t.rest.hh), .row 1]))], 2, N4, 196, ⟨fun _ => none, none, fun _ => none⟩⟩)
    (fun s => s.1 ≤ t.fl.length ∧ s.2.1.length ≤ 50 ∧ Ins t.fl f s.1 s.2.2 s.2.1) (fun s => t.fl.length - s.1) (0, [], false) ⟨Nat.zero_le _, Nat.zero_le _, rfl⟩ ?_ ?_
  · exact Wk.nilBox 4 28 [.v (.int .i64 t.ver), .v (.int .i64 t.fr), .v (.int .i64 t.sl), .v (.int .i64 t.rest.x), .v (.int .i64 t.rest.y), .v (.int .i64 t.rest.s), .v (.int .i64 t.rest.ul), .v (.int .i64 t.rest.uh), .v (.int .i64 t.rest.vl), .v (.int .i64 t.rest.vh), .v (.int .i64 t.rest.hl), .v (.int .i64 t.rest.hh)] [] 25 9 rfl (Wk.mk' (fun k => if k = 0 then 4 else 5) (by repeat' constructor) (by repeat' constructor) (by simp [injOK]) rfl rfl rfl)
  rintro ⟨i, L, d⟩ ⟨hi, hL, hI⟩ m
  simp only at hi hL hI
  repeat (first | refine VIf.tt ?_ | refine VIf.ff ?_)
  refine VIf.mk (fun hlt0 => ?_) (fun hge => ?_)
  · have hlt : i < t.fl.length := lt_of_dec hlt0
    clear hlt0
    obtain ⟨ad', ead, hr⟩ := hrd N4 m4 i hlt
    repeat (first | refine VIf.tt ?_ | refine VIf.ff ?_)
    refine VIdx.mk ad' i ead rfl hlt ?_
    repeat (first | refine VIf.tt ?_ | refine VIf.ff ?_)
    refine VReads.mk (flC (gf t.fl i)) rfl hr ?_
    cases d
    · repeat (first | refine VIf.tt ?_ | refine VIf.ff ?_)
      repeat (first | refine VIf.tt ?_ | refine VIf.ff ?_)
      refine VRead.mk _ (cellAt hD7 2 rfl) ?_
      repeat (first | refine VIf.tt ?_ | refine VIf.ff ?_)
      refine VIf.mk (fun _ => ?_) (fun _ => ?_)
      · repeat (first | refine VIf.tt ?_ | refine VIf.ff ?_)
        repeat (first | refine VIf.tt ?_ | refine VIf.ff ?_)
        refine VReads.mk (flC f) rfl (rdAt hD7) ?_
        repeat (first | refine VIf.tt ?_ | refine VIf.ff ?_)
        refine VFact.mk (by first | omega | (simp only; omega)) ?_
        repeat (first | refine VIf.tt ?_ | refine VIf.ff ?_)
        refine VFact.mk (by first | omega | (simp only; omega)) ?_
        repeat (first | refine VIf.tt ?_ | refine VIf.ff ?_)
        refine VIf.mk (fun _ => ?_) (fun h => ?_)
        · repeat (first | refine VIf.tt ?_ | refine VIf.ff ?_)
          exact VFact.mk rfl trivial
        · have h : ¬ ((L.length + 1 + 1 : Nat) : Int) > 50 := of_decide_eq_false h
          repeat (first | refine VIf.tt ?_ | refine VIf.ff ?_)
          refine VArith.ok (by first | omega | (simp only; omega)) (by first | omega | (simp only; omega)) ?_
          exact ⟨(i + 1, L ++ [f] ++ [gf t.fl i], true), ⟨hlt, by simp only [List.length_append, List.length_singleton]; omega, ins_step (ins_put hI) hlt⟩, (by first | omega | (simp only; omega)), Wk.mk' (fun k => if k = 1 then 6 else k) (by repeat' constructor) ⟨⟨rfl, ⟨rfl, rfl, by simp, by simp [cellsF]; rfl⟩⟩, ⟨rfl, by repeat' constructor⟩, trivial⟩ (by simp [injOK]) rfl rfl rfl⟩
      repeat (first | refine VIf.tt ?_ | refine VIf.ff ?_)
      refine VRead.mk _ (cellAt hD7 2 rfl) ?_
      repeat (first | refine VIf.tt ?_ | refine VIf.ff ?_)
      refine VIf.mk (fun _ => ?_) (fun _ => ?_)
      rotate_left
      · repeat (first | refine VIf.tt ?_ | refine VIf.ff ?_)
        repeat (first | refine VIf.tt ?_ | refine VIf.ff ?_)
        refine VFact.mk (by first | omega | (simp only; omega)) ?_
        repeat (first | refine VIf.tt ?_ | refine VIf.ff ?_)
        refine VIf.mk (fun _ => ?_) (fun h => ?_)
        · repeat (first | refine VIf.tt ?_ | refine VIf.ff ?_)
          exact VFact.mk rfl trivial
        · have h : ¬ ((L.length + 1 : Nat) : Int) > 50 := of_decide_eq_false h
          repeat (first | refine VIf.tt ?_ | refine VIf.ff ?_)
          refine VArith.ok (by first | omega | (simp only; omega)) (by first | omega | (simp only; omega)) ?_
          exact ⟨(i + 1, L ++ [gf t.fl i], false), ⟨hlt, by simp only [List.length_append, List.length_singleton]; omega, ins_step hI hlt⟩, (by first | omega | (simp only; omega)), Wk.mk' (fun k => if k = 1 then 4 else k) (by repeat' constructor) ⟨⟨rfl, ⟨rfl, rfl, by simp, by simp [cellsF]; rfl⟩⟩, ⟨rfl, by repeat' constructor⟩, trivial⟩ (by simp [injOK]) rfl rfl rfl⟩
      repeat (first | refine VIf.tt ?_ | refine VIf.ff ?_)
      refine VRead.mk _ (cellAt hD7 1 rfl) ?_
      repeat (first | refine VIf.tt ?_ | refine VIf.ff ?_)
      refine VIf.mk (fun _ => ?_) (fun _ => ?_)
      · repeat (first | refine VIf.tt ?_ | refine VIf.ff ?_)
        repeat (first | refine VIf.tt ?_ | refine VIf.ff ?_)
        refine VReads.mk (flC f) rfl (rdAt hD7) ?_
        repeat (first | refine VIf.tt ?_ | refine VIf.ff ?_)
        refine VFact.mk (by first | omega | (simp only; omega)) ?_
        repeat (first | refine VIf.tt ?_ | refine VIf.ff ?_)
        refine VFact.mk (by first | omega | (simp only; omega)) ?_
        repeat (first | refine VIf.tt ?_ | refine VIf.ff ?_)
        refine VIf.mk (fun _ => ?_) (fun h => ?_)
        · repeat (first | refine VIf.tt ?_ | refine VIf.ff ?_)
          exact VFact.mk rfl trivial
        · have h : ¬ ((L.length + 1 + 1 : Nat) : Int) > 50 := of_decide_eq_false h
          repeat (first | refine VIf.tt ?_ | refine VIf.ff ?_)
          refine VArith.ok (by first | omega | (simp only; omega)) (by first | omega | (simp only; omega)) ?_
          exact ⟨(i + 1, L ++ [f] ++ [gf t.fl i], true), ⟨hlt, by simp only [List.length_append, List.length_singleton]; omega, ins_step (ins_put hI) hlt⟩, (by first | omega | (simp only; omega)), Wk.mk' (fun k => if k = 1 then 6 else k) (by repeat' constructor) ⟨⟨rfl, ⟨rfl, rfl, by simp, by simp [cellsF]; rfl⟩⟩, ⟨rfl, by repeat' constructor⟩, trivial⟩ (by simp [injOK]) rfl rfl rfl⟩
      repeat (first | refine VIf.tt ?_ | refine VIf.ff ?_)
      refine VRead.mk _ (cellAt hD7 1 rfl) ?_
      repeat (first | refine VIf.tt ?_ | refine VIf.ff ?_)
      refine VIf.mk (fun _ => ?_) (fun _ => ?_)
      rotate_left
      · repeat (first | refine VIf.tt ?_ | refine VIf.ff ?_)
        repeat (first | refine VIf.tt ?_ | refine VIf.ff ?_)
        refine VFact.mk (by first | omega | (simp only; omega)) ?_
        repeat (first | refine VIf.tt ?_ | refine VIf.ff ?_)
        refine VIf.mk (fun _ => ?_) (fun h => ?_)
        · repeat (first | refine VIf.tt ?_ | refine VIf.ff ?_)
          exact VFact.mk rfl trivial
        · have h : ¬ ((L.length + 1 : Nat) : Int) > 50 := of_decide_eq_false h
          repeat (first | refine VIf.tt ?_ | refine VIf.ff ?_)
          refine VArith.ok (by first | omega | (simp only; omega)) (by first | omega | (simp only; omega)) ?_
          exact ⟨(i + 1, L ++ [gf t.fl i], false), ⟨hlt, by simp only [List.length_append, List.length_singleton]; omega, ins_step hI hlt⟩, (by first | omega | (simp only; omega)), Wk.mk' (fun k => if k = 1 then 4 else k) (by repeat' constructor) ⟨⟨rfl, ⟨rfl, rfl, by simp, by simp [cellsF]; rfl⟩⟩, ⟨rfl, by repeat' constructor⟩, trivial⟩ (by simp [injOK]) rfl rfl rfl⟩
      repeat (first | refine VIf.tt ?_ | refine VIf.ff ?_)
      refine VRead.mk _ (cellAt hD7 0 rfl) ?_
      repeat (first | refine VIf.tt ?_ | refine VIf.ff ?_)
      refine VIf.mk (fun _ => ?_) (fun _ => ?_)
      · repeat (first | refine VIf.tt ?_ | refine VIf.ff ?_)
        refine VReads.mk (flC f) rfl (rdAt hD7) ?_
        repeat (first | refine VIf.tt ?_ | refine VIf.ff ?_)
        refine VFact.mk (by first | omega | (simp only; omega)) ?_
        repeat (first | refine VIf.tt ?_ | refine VIf.ff ?_)
        refine VFact.mk (by first | omega | (simp only; omega)) ?_
        repeat (first | refine VIf.tt ?_ | refine VIf.ff ?_)
        refine VIf.mk (fun _ => ?_) (fun h => ?_)
        · repeat (first | refine VIf.tt ?_ | refine VIf.ff ?_)
          exact VFact.mk rfl trivial
        · have h : ¬ ((L.length + 1 + 1 : Nat) : Int) > 50 := of_decide_eq_false h
          repeat (first | refine VIf.tt ?_ | refine VIf.ff ?_)
          refine VArith.ok (by first | omega | (simp only; omega)) (by first | omega | (simp only; omega)) ?_
          exact ⟨(i + 1, L ++ [f] ++ [gf t.fl i], true), ⟨hlt, by simp only [List.length_append, List.length_singleton]; omega, ins_step (ins_put hI) hlt⟩, (by first | omega | (simp only; omega)), Wk.mk' (fun k => if k = 1 then 6 else k) (by repeat' constructor) ⟨⟨rfl, ⟨rfl, rfl, by simp, by simp [cellsF]; rfl⟩⟩, ⟨rfl, by repeat' constructor⟩, trivial⟩ (by simp [injOK]) rfl rfl rfl⟩
      · repeat (first | refine VIf.tt ?_ | refine VIf.ff ?_)
        refine VFact.mk (by first | omega | (simp only; omega)) ?_
        repeat (first | refine VIf.tt ?_ | refine VIf.ff ?_)
        refine VIf.mk (fun _ => ?_) (fun h => ?_)
        · repeat (first | refine VIf.tt ?_ | refine VIf.ff ?_)
          exact VFact.mk rfl trivial
        · have h : ¬ ((L.length + 1 : Nat) : Int) > 50 := of_decide_eq_false h
          repeat (first | refine VIf.tt ?_ | refine VIf.ff ?_)
          refine VArith.ok (by first | omega | (simp only; omega)) (by first | omega | (simp only; omega)) ?_
          exact ⟨(i + 1, L ++ [gf t.fl i], false), ⟨hlt, by simp only [List.length_append, List.length_singleton]; omega, ins_step hI hlt⟩, (by first | omega | (simp only; omega)), Wk.mk' (fun k => if k = 1 then 4 else k) (by repeat' constructor) ⟨⟨rfl, ⟨rfl, rfl, by simp, by simp [cellsF]; rfl⟩⟩, ⟨rfl, by repeat' constructor⟩, trivial⟩ (by simp [injOK]) rfl rfl rfl⟩
    · repeat (first | refine VIf.tt ?_ | refine VIf.ff ?_)
      repeat (first | refine VIf.tt ?_ | refine VIf.ff ?_)
      refine VFact.mk (by first | omega | (simp only; omega)) ?_
      repeat (first | refine VIf.tt ?_ | refine VIf.ff ?_)
      refine VIf.mk (fun _ => ?_) (fun h => ?_)
      · repeat (first | refine VIf.tt ?_ | refine VIf.ff ?_)
        exact VFact.mk rfl trivial
      · have h : ¬ ((L.length + 1 : Nat) : Int) > 50 := of_decide_eq_false h
        repeat (first | refine VIf.tt ?_ | refine VIf.ff ?_)
        refine VArith.ok (by first | omega | (simp only; omega)) (by first | omega | (simp only; omega)) ?_
        exact ⟨(i + 1, L ++ [gf t.fl i], true), ⟨hlt, by simp only [List.length_append, List.length_singleton]; omega, ins_step hI hlt⟩, (by first | omega | (simp only; omega)), Wk.mk' (fun k => if k = 1 then 4 else k) (by repeat' constructor) ⟨⟨rfl, ⟨rfl, rfl, by simp, by simp [cellsF]; rfl⟩⟩, ⟨rfl, by repeat' constructor⟩, trivial⟩ (by simp [injOK]) rfl rfl rfl⟩
  have : i = t.fl.length := by have := ge_of_dec hge; omega
  subst this
  have fin : ∀ L', Ins t.fl f t.fl.length true L' → ∃ a b, t.fl = a ++ b ∧ L' = a ++ f :: b := fun L' h => by
    unfold Ins at h
    rw [if_pos rfl, List.take_length] at h
    exact h
  cases d
  · repeat (first | refine VIf.tt ?_ | refine VIf.ff ?_)
    repeat (first | refine VIf.tt ?_ | refine VIf.ff ?_)
    refine VReads.mk (flC f) rfl (rdAt hD7) ?_
    repeat (first | refine VIf.tt ?_ | refine VIf.ff ?_)
    refine VFact.mk (by first | omega | (simp only; omega)) ?_
    have hI := fin _ (ins_put hI)
    repeat (first | refine VIf.tt ?_ | refine VIf.ff ?_)
    refine VReads.mk (tdC t (.slice ad t.fl.length c)).toList rfl (rdAt hD6) ?_
    repeat (first | refine VIf.tt ?_ | refine VIf.ff ?_)
    refine VReads.mk [.int .i64 x1, .int .i64 y1] rfl (rdAt hD8) ?_
    repeat (first | refine VIf.tt ?_ | refine VIf.ff ?_)
    refine VReads.mk [.int .i64 x2, .int .i64 y2] rfl (rdAt hD9) ?_
    repeat (first | refine VIf.tt ?_ | refine VIf.ff ?_)
    refine VFn.mk _ (usable_fn t _ x1 y1 x2 y2 n1 n2 N4 (hv'.le m4)) ?_
    rintro rs M5 hM5 ⟨u, rfl, hu⟩
    repeat (first | refine VIf.tt ?_ | refine VIf.ff ?_)
    refine VIf.mk (fun _ => ?_) (fun e => ?_)
    · repeat (first | refine VIf.tt ?_ | refine VIf.ff ?_)
      repeat (first | refine VIf.tt ?_ | refine VIf.ff ?_)
      exact VFact.mk rfl trivial
    have g := hu ((Bool.not_eq_false' _).mp e)
    repeat (first | refine VIf.tt ?_ | refine VIf.ff ?_)
    refine VFz.mk fun z B5 N5 hN5 hz => ?_
    have hz : SlAt N5 9 z (L ++ [f]).length (cellsF (L ++ [f])) := (by rw [cellsF_snoc, List.length_append]; exact hz)
    obtain ⟨az, cz, rfl⟩ := SlAt.shape hz
    have l45 := hM5.trans hN5
    repeat (first | refine VIf.tt ?_ | refine VIf.ff ?_)
    refine VReads.mk [.int .i64 x1, .int .i64 y1] rfl (rdAt (l45 _ _ hD8)) ?_
    repeat (first | refine VIf.tt ?_ | refine VIf.ff ?_)
    refine VReads.mk [.int .i64 x2, .int .i64 y2] rfl (rdAt (l45 _ _ hD9)) ?_
    repeat (first | refine VIf.tt ?_ | refine VIf.ff ?_)
    refine VFn.mk _ (usable_fn (more t (L ++ [f])) _ x1 y1 x2 y2 n1 n2 N5 (FlsV.of hz)) ?_
    rintro rs M6 hM6 ⟨u2, rfl, hu2⟩
    repeat (first | refine VIf.tt ?_ | refine VIf.ff ?_)
    repeat (first | refine VIf.tt ?_ | refine VIf.ff ?_)
    refine VIf.mk (fun _ => ?_) (fun e2 => ?_)
    · repeat (first | refine VIf.tt ?_ | refine VIf.ff ?_)
      repeat (first | refine VIf.tt ?_ | refine VIf.ff ?_)
      exact VFact.mk rfl trivial
    have g2 := hu2 ((Bool.not_eq_false' _).mp e2)
    repeat (first | refine VIf.tt ?_ | refine VIf.ff ?_)
    refine VDraw.code ?_
    repeat (first | refine VIf.tt ?_ | refine VIf.ff ?_)
    refine VCode.frz [14] ?_
    repeat (first | refine VIf.tt ?_ | refine VIf.ff ?_)
    refine VFzB.mk fun z14 D14 N7 hN7 hD14 => ?_
    have hD14 : N7 D14 = some (.cells (tdC (more t (L ++ [f])) (.slice az (L ++ [f]).length cz)) 28 (0, 0)) := hD14
    have l57 := hM6.trans hN7
    have l47 := l45.trans l57
    have hD6 := l47 _ _ hD6
    have hD7 := l47 _ _ hD7
    have hD8 := l47 _ _ hD8
    have hD9 := l47 _ _ hD9
    have b1 := place13_bd g.p1
    have b2 := place13_bd g.p2
    have q1 := g.h1
    have q2 := g.h2
    have q3 := g.h3
    have hfr := (tide_get g.ht).1
    repeat (first | refine VIf.tt ?_ | refine VIf.ff ?_)
    refine VCode.join cxOK Bool (fun b => ⟨[(4, .v (.int .i64 n1)), (5, .v (.int .i64 n2)), (6, .v (.pointer (some ⟨D6, 0, none⟩))), (7, .v (.pointer (some ⟨D7, 0, none⟩))), (8, .v (.pointer (some ⟨D8, 0, none⟩))), (9, .v (.pointer (some ⟨D9, 0, none⟩))), (12, .v (.bool false)), (13, .v (.bool true)), (14, .v (.pointer (some ⟨D14, 0, none⟩))), (18, .v (.bool b))], [], 0, N7, 196, ⟨fun _ => none, none, fun _ => none⟩⟩) (fun b => b = hereB f x1 y1 x2 y2) ?_ ?_
    · repeat (first | refine VIf.tt ?_ | refine VIf.ff ?_)
      refine VDraw.go (by kernel_rfl) ?_
      repeat (first | refine VIf.tt ?_ | refine VIf.ff ?_)
      refine VRead.mk _ (cellAt hD8 0 rfl) ?_
      repeat (first | refine VIf.tt ?_ | refine VIf.ff ?_)
      refine VRead.mk _ (cellAt hD7 0 rfl) ?_
      repeat (first | refine VIf.tt ?_ | refine VIf.ff ?_)
      refine VFn.p (Block13_fn x1 N7 (by omega) (by omega)) ?_
      repeat (first | refine VIf.tt ?_ | refine VIf.ff ?_)
      refine VIf.mk (fun h1 => ?_) (fun h1 => ?_)
      rotate_left
      · repeat (first | refine VIf.tt ?_ | refine VIf.ff ?_)
        exact ⟨false, by unfold hereB; rw [h1]; rfl, (Wk.mk' id (by repeat' constructor) (by repeat' constructor) (injOK_id _) rfl rfl rfl)⟩
      repeat (first | refine VIf.tt ?_ | refine VIf.ff ?_)
      refine VRead.mk _ (cellAt hD7 0 rfl) ?_
      repeat (first | refine VIf.tt ?_ | refine VIf.ff ?_)
      refine VRead.mk _ (cellAt hD9 0 rfl) ?_
      repeat (first | refine VIf.tt ?_ | refine VIf.ff ?_)
      refine VFn.p (Block13_fn x2 N7 (by omega) (by omega)) ?_
      repeat (first | refine VIf.tt ?_ | refine VIf.ff ?_)
      refine VIf.mk (fun h2 => ?_) (fun h2 => ?_)
      rotate_left
      · repeat (first | refine VIf.tt ?_ | refine VIf.ff ?_)
        exact ⟨false, by unfold hereB; rw [h1, h2]; rfl, (Wk.mk' id (by repeat' constructor) (by repeat' constructor) (injOK_id _) rfl rfl rfl)⟩
      repeat (first | refine VIf.tt ?_ | refine VIf.ff ?_)
      refine VRead.mk _ (cellAt hD8 1 rfl) ?_
      repeat (first | refine VIf.tt ?_ | refine VIf.ff ?_)
      refine VRead.mk _ (cellAt hD7 1 rfl) ?_
      repeat (first | refine VIf.tt ?_ | refine VIf.ff ?_)
      refine VFn.p (Block13_fn y1 N7 (by omega) (by omega)) ?_
      repeat (first | refine VIf.tt ?_ | refine VIf.ff ?_)
      refine VIf.mk (fun h3 => ?_) (fun h3 => ?_)
      rotate_left
      · repeat (first | refine VIf.tt ?_ | refine VIf.ff ?_)
        exact ⟨false, by unfold hereB; rw [h1, h2, h3]; rfl, (Wk.mk' id (by repeat' constructor) (by repeat' constructor) (injOK_id _) rfl rfl rfl)⟩
      repeat (first | refine VIf.tt ?_ | refine VIf.ff ?_)
      refine VRead.mk _ (cellAt hD7 1 rfl) ?_
      repeat (first | refine VIf.tt ?_ | refine VIf.ff ?_)
      refine VRead.mk _ (cellAt hD9 1 rfl) ?_
      repeat (first | refine VIf.tt ?_ | refine VIf.ff ?_)
      refine VFn.p (Block13_fn y2 N7 (by omega) (by omega)) ?_
      repeat (first | refine VIf.tt ?_ | refine VIf.ff ?_)
      exact ⟨decide (f.y ≤ y2 / 10000), by unfold hereB; rw [h1, h2, h3]; rfl, (Wk.mk' id (by repeat' constructor) (by repeat' constructor) (injOK_id _) rfl rfl rfl)⟩
    rintro b m hb
    repeat (first | refine VIf.tt ?_ | refine VIf.ff ?_)
    refine VDraw.code ?_
    repeat (first | refine VIf.tt ?_ | refine VIf.ff ?_)
    refine VCode.join cxOK Bool (fun b' => ⟨[(4, .v (.int .i64 n1)), (5, .v (.int .i64 n2)), (6, .v (.pointer (some ⟨D6, 0, none⟩))), (7, .v (.pointer (some ⟨D7, 0, none⟩))), (8, .v (.pointer (some ⟨D8, 0, none⟩))), (9, .v (.pointer (some ⟨D9, 0, none⟩))), (12, .v (.bool false)), (13, .v (.bool true)), (14, .v (.pointer (some ⟨D14, 0, none⟩))), (18, .v (.bool b)), (19, .v (.bool b'))], [], 0, N7, 196, ⟨fun _ => none, none, fun _ => none⟩⟩) (fun b' => b' = nowB t f n1 n2) ?_ ?_
    · repeat (first | refine VIf.tt ?_ | refine VIf.ff ?_)
      refine VDraw.go (by kernel_rfl) ?_
      repeat (first | refine VIf.tt ?_ | refine VIf.ff ?_)
      refine VReads.mk (tdC t (.slice ad t.fl.length c)).toList rfl (rdAt hD6) ?_
      repeat (first | refine VIf.tt ?_ | refine VIf.ff ?_)
      refine VRead.mk _ (cellAt hD7 2 rfl) ?_
      repeat (first | refine VIf.tt ?_ | refine VIf.ff ?_)
      refine VFn.p (Slot13_fn t _ n1 N7 (hv'.le (m4.trans l47)) ⟨hfr.2.2.1, hfr.2.2.2.1⟩ (by omega)) ?_
      repeat (first | refine VIf.tt ?_ | refine VIf.ff ?_)
      refine VIf.mk (fun h1 => ?_) (fun h1 => ?_)
      rotate_left
      · repeat (first | refine VIf.tt ?_ | refine VIf.ff ?_)
        exact ⟨false, by unfold nowB; rw [h1]; rfl, (Wk.mk' id (by repeat' constructor) (by repeat' constructor) (injOK_id _) rfl rfl rfl)⟩
      repeat (first | refine VIf.tt ?_ | refine VIf.ff ?_)
      refine VRead.mk _ (cellAt hD7 2 rfl) ?_
      repeat (first | refine VIf.tt ?_ | refine VIf.ff ?_)
      refine VReads.mk (tdC t (.slice ad t.fl.length c)).toList rfl (rdAt hD6) ?_
      repeat (first | refine VIf.tt ?_ | refine VIf.ff ?_)
      refine VFn.p (Slot13_fn t _ n2 N7 (hv'.le (m4.trans l47)) ⟨hfr.2.2.1, hfr.2.2.2.1⟩ (by omega)) ?_
      repeat (first | refine VIf.tt ?_ | refine VIf.ff ?_)
      exact ⟨decide (f.s ≤ (n2 - t.fr) / 3600), by unfold nowB; rw [h1]; rfl, (Wk.mk' id (by repeat' constructor) (by repeat' constructor) (injOK_id _) rfl rfl rfl)⟩
    rintro b' m hb'
    repeat (first | refine VIf.tt ?_ | refine VIf.ff ?_)
    refine VReads.mk (tdC t (.slice ad t.fl.length c)).toList rfl (rdAt hD6) ?_
    repeat (first | refine VIf.tt ?_ | refine VIf.ff ?_)
    refine VReads.mk [.int .i64 x1, .int .i64 y1] rfl (rdAt hD8) ?_
    repeat (first | refine VIf.tt ?_ | refine VIf.ff ?_)
    refine VReads.mk [.int .i64 x2, .int .i64 y2] rfl (rdAt hD9) ?_
    repeat (first | refine VIf.tt ?_ | refine VIf.ff ?_)
    refine VFn.mk _ (Bound_is (hv'.le (m4.trans l47)) g) ?_
    rintro rs M8 hM8 ⟨fa, rfl, hJa⟩
    repeat (first | refine VIf.tt ?_ | refine VIf.ff ?_)
    refine VReads.mk (tdC (more t (L ++ [f])) (.slice az (L ++ [f]).length cz)).toList rfl (rdAt (hM8 _ _ hD14)) ?_
    repeat (first | refine VIf.tt ?_ | refine VIf.ff ?_)
    refine VReads.mk [.int .i64 x1, .int .i64 y1] rfl (rdAt (hM8 _ _ hD8)) ?_
    repeat (first | refine VIf.tt ?_ | refine VIf.ff ?_)
    refine VReads.mk [.int .i64 x2, .int .i64 y2] rfl (rdAt (hM8 _ _ hD9)) ?_
    repeat (first | refine VIf.tt ?_ | refine VIf.ff ?_)
    refine VFn.mk _ (Bound_is (t := more t (L ++ [f])) ((FlsV.of hz).le (l57.trans hM8)) g2) ?_
    rintro rs M9 hM9 ⟨fb, rfl, hJb⟩
    obtain ⟨la, lb, hl1, hl2⟩ := hI
    have key : (b && b') = true ∨ fa = fb := by
      rw [hb, hb']
      exact elsewhere hl1 (tm := more t (L ++ [f])) hl2 rfl rfl hJa hJb
    have keyE : fa = fb → eqI [fa.x, fa.y, fa.s, fa.ul, fa.uh, fa.vl, fa.vh, fa.hl, fa.hh] [fb.x, fb.y, fb.s, fb.ul, fb.uh, fb.vl, fb.vh, fb.hl, fb.hh] = true := fun e => by rw [e]; exact (eqI_iff rfl).2 rfl
    cases b with
    | true =>
      cases b' with
      | true =>
        repeat (first | refine VIf.tt ?_ | refine VIf.ff ?_)
        repeat (first | refine VIf.tt ?_ | refine VIf.ff ?_)
        exact VFact.mk rfl trivial
      | false =>
        repeat (first | refine VIf.tt ?_ | refine VIf.ff ?_)
        repeat (first | refine VIf.tt ?_ | refine VIf.ff ?_)
        refine VFact.mk ?_ trivial
        exact congrArg (fun b => [Value.bool b]) (keyE (key.resolve_left (by decide)))
    | false =>
      repeat (first | refine VIf.tt ?_ | refine VIf.ff ?_)
      repeat (first | refine VIf.tt ?_ | refine VIf.ff ?_)
      refine VFact.mk ?_ trivial
      exact congrArg (fun b => [Value.bool b]) (keyE (key.resolve_left (by simp)))
  · have hI := fin _ hI
    repeat (first | refine VIf.tt ?_ | refine VIf.ff ?_)
    refine VReads.mk (tdC t (.slice ad t.fl.length c)).toList rfl (rdAt hD6) ?_
    repeat (first | refine VIf.tt ?_ | refine VIf.ff ?_)
    refine VReads.mk [.int .i64 x1, .int .i64 y1] rfl (rdAt hD8) ?_
    repeat (first | refine VIf.tt ?_ | refine VIf.ff ?_)
    refine VReads.mk [.int .i64 x2, .int .i64 y2] rfl (rdAt hD9) ?_
    repeat (first | refine VIf.tt ?_ | refine VIf.ff ?_)
    refine VFn.mk _ (usable_fn t _ x1 y1 x2 y2 n1 n2 N4 (hv'.le m4)) ?_
    rintro rs M5 hM5 ⟨u, rfl, hu⟩
    repeat (first | refine VIf.tt ?_ | refine VIf.ff ?_)
    refine VIf.mk (fun _ => ?_) (fun e => ?_)
    · repeat (first | refine VIf.tt ?_ | refine VIf.ff ?_)
      repeat (first | refine VIf.tt ?_ | refine VIf.ff ?_)
      exact VFact.mk rfl trivial
    have g := hu ((Bool.not_eq_false' _).mp e)
    repeat (first | refine VIf.tt ?_ | refine VIf.ff ?_)
    refine VFz.mk fun z B5 N5 hN5 hz => ?_
    have hz : SlAt N5 9 z (L).length (cellsF (L)) := hz
    obtain ⟨az, cz, rfl⟩ := SlAt.shape hz
    have l45 := hM5.trans hN5
    repeat (first | refine VIf.tt ?_ | refine VIf.ff ?_)
    refine VReads.mk [.int .i64 x1, .int .i64 y1] rfl (rdAt (l45 _ _ hD8)) ?_
    repeat (first | refine VIf.tt ?_ | refine VIf.ff ?_)
    refine VReads.mk [.int .i64 x2, .int .i64 y2] rfl (rdAt (l45 _ _ hD9)) ?_
    repeat (first | refine VIf.tt ?_ | refine VIf.ff ?_)
    refine VFn.mk _ (usable_fn (more t (L)) _ x1 y1 x2 y2 n1 n2 N5 (FlsV.of hz)) ?_
    rintro rs M6 hM6 ⟨u2, rfl, hu2⟩
    repeat (first | refine VIf.tt ?_ | refine VIf.ff ?_)
    repeat (first | refine VIf.tt ?_ | refine VIf.ff ?_)
    refine VIf.mk (fun _ => ?_) (fun e2 => ?_)
    · repeat (first | refine VIf.tt ?_ | refine VIf.ff ?_)
      repeat (first | refine VIf.tt ?_ | refine VIf.ff ?_)
      exact VFact.mk rfl trivial
    have g2 := hu2 ((Bool.not_eq_false' _).mp e2)
    repeat (first | refine VIf.tt ?_ | refine VIf.ff ?_)
    refine VDraw.code ?_
    repeat (first | refine VIf.tt ?_ | refine VIf.ff ?_)
    refine VCode.frz [14] ?_
    repeat (first | refine VIf.tt ?_ | refine VIf.ff ?_)
    refine VFzB.mk fun z14 D14 N7 hN7 hD14 => ?_
    have hD14 : N7 D14 = some (.cells (tdC (more t (L)) (.slice az (L).length cz)) 28 (0, 0)) := hD14
    have l57 := hM6.trans hN7
    have l47 := l45.trans l57
    have hD6 := l47 _ _ hD6
    have hD7 := l47 _ _ hD7
    have hD8 := l47 _ _ hD8
    have hD9 := l47 _ _ hD9
    have b1 := place13_bd g.p1
    have b2 := place13_bd g.p2
    have q1 := g.h1
    have q2 := g.h2
    have q3 := g.h3
    have hfr := (tide_get g.ht).1
    repeat (first | refine VIf.tt ?_ | refine VIf.ff ?_)
    refine VCode.join cxOK Bool (fun b => ⟨[(4, .v (.int .i64 n1)), (5, .v (.int .i64 n2)), (6, .v (.pointer (some ⟨D6, 0, none⟩))), (7, .v (.pointer (some ⟨D7, 0, none⟩))), (8, .v (.pointer (some ⟨D8, 0, none⟩))), (9, .v (.pointer (some ⟨D9, 0, none⟩))), (12, .v (.bool false)), (13, .v (.bool true)), (14, .v (.pointer (some ⟨D14, 0, none⟩))), (18, .v (.bool b))], [], 0, N7, 196, ⟨fun _ => none, none, fun _ => none⟩⟩) (fun b => b = hereB f x1 y1 x2 y2) ?_ ?_
    · repeat (first | refine VIf.tt ?_ | refine VIf.ff ?_)
      refine VDraw.go (by kernel_rfl) ?_
      repeat (first | refine VIf.tt ?_ | refine VIf.ff ?_)
      refine VRead.mk _ (cellAt hD8 0 rfl) ?_
      repeat (first | refine VIf.tt ?_ | refine VIf.ff ?_)
      refine VRead.mk _ (cellAt hD7 0 rfl) ?_
      repeat (first | refine VIf.tt ?_ | refine VIf.ff ?_)
      refine VFn.p (Block13_fn x1 N7 (by omega) (by omega)) ?_
      repeat (first | refine VIf.tt ?_ | refine VIf.ff ?_)
      refine VIf.mk (fun h1 => ?_) (fun h1 => ?_)
      rotate_left
      · repeat (first | refine VIf.tt ?_ | refine VIf.ff ?_)
        exact ⟨false, by unfold hereB; rw [h1]; rfl, (Wk.mk' id (by repeat' constructor) (by repeat' constructor) (injOK_id _) rfl rfl rfl)⟩
      repeat (first | refine VIf.tt ?_ | refine VIf.ff ?_)
      refine VRead.mk _ (cellAt hD7 0 rfl) ?_
      repeat (first | refine VIf.tt ?_ | refine VIf.ff ?_)
      refine VRead.mk _ (cellAt hD9 0 rfl) ?_
      repeat (first | refine VIf.tt ?_ | refine VIf.ff ?_)
      refine VFn.p (Block13_fn x2 N7 (by omega) (by omega)) ?_
      repeat (first | refine VIf.tt ?_ | refine VIf.ff ?_)
      refine VIf.mk (fun h2 => ?_) (fun h2 => ?_)
      rotate_left
      · repeat (first | refine VIf.tt ?_ | refine VIf.ff ?_)
        exact ⟨false, by unfold hereB; rw [h1, h2]; rfl, (Wk.mk' id (by repeat' constructor) (by repeat' constructor) (injOK_id _) rfl rfl rfl)⟩
      repeat (first | refine VIf.tt ?_ | refine VIf.ff ?_)
      refine VRead.mk _ (cellAt hD8 1 rfl) ?_
      repeat (first | refine VIf.tt ?_ | refine VIf.ff ?_)
      refine VRead.mk _ (cellAt hD7 1 rfl) ?_
      repeat (first | refine VIf.tt ?_ | refine VIf.ff ?_)
      refine VFn.p (Block13_fn y1 N7 (by omega) (by omega)) ?_
      repeat (first | refine VIf.tt ?_ | refine VIf.ff ?_)
      refine VIf.mk (fun h3 => ?_) (fun h3 => ?_)
      rotate_left
      · repeat (first | refine VIf.tt ?_ | refine VIf.ff ?_)
        exact ⟨false, by unfold hereB; rw [h1, h2, h3]; rfl, (Wk.mk' id (by repeat' constructor) (by repeat' constructor) (injOK_id _) rfl rfl rfl)⟩
      repeat (first | refine VIf.tt ?_ | refine VIf.ff ?_)
      refine VRead.mk _ (cellAt hD7 1 rfl) ?_
      repeat (first | refine VIf.tt ?_ | refine VIf.ff ?_)
      refine VRead.mk _ (cellAt hD9 1 rfl) ?_
      repeat (first | refine VIf.tt ?_ | refine VIf.ff ?_)
      refine VFn.p (Block13_fn y2 N7 (by omega) (by omega)) ?_
      repeat (first | refine VIf.tt ?_ | refine VIf.ff ?_)
      exact ⟨decide (f.y ≤ y2 / 10000), by unfold hereB; rw [h1, h2, h3]; rfl, (Wk.mk' id (by repeat' constructor) (by repeat' constructor) (injOK_id _) rfl rfl rfl)⟩
    rintro b m hb
    repeat (first | refine VIf.tt ?_ | refine VIf.ff ?_)
    refine VDraw.code ?_
    repeat (first | refine VIf.tt ?_ | refine VIf.ff ?_)
    refine VCode.join cxOK Bool (fun b' => ⟨[(4, .v (.int .i64 n1)), (5, .v (.int .i64 n2)), (6, .v (.pointer (some ⟨D6, 0, none⟩))), (7, .v (.pointer (some ⟨D7, 0, none⟩))), (8, .v (.pointer (some ⟨D8, 0, none⟩))), (9, .v (.pointer (some ⟨D9, 0, none⟩))), (12, .v (.bool false)), (13, .v (.bool true)), (14, .v (.pointer (some ⟨D14, 0, none⟩))), (18, .v (.bool b)), (19, .v (.bool b'))], [], 0, N7, 196, ⟨fun _ => none, none, fun _ => none⟩⟩) (fun b' => b' = nowB t f n1 n2) ?_ ?_
    · repeat (first | refine VIf.tt ?_ | refine VIf.ff ?_)
      refine VDraw.go (by kernel_rfl) ?_
      repeat (first | refine VIf.tt ?_ | refine VIf.ff ?_)
      refine VReads.mk (tdC t (.slice ad t.fl.length c)).toList rfl (rdAt hD6) ?_
      repeat (first | refine VIf.tt ?_ | refine VIf.ff ?_)
      refine VRead.mk _ (cellAt hD7 2 rfl) ?_
      repeat (first | refine VIf.tt ?_ | refine VIf.ff ?_)
      refine VFn.p (Slot13_fn t _ n1 N7 (hv'.le (m4.trans l47)) ⟨hfr.2.2.1, hfr.2.2.2.1⟩ (by omega)) ?_
      repeat (first | refine VIf.tt ?_ | refine VIf.ff ?_)
      refine VIf.mk (fun h1 => ?_) (fun h1 => ?_)
      rotate_left
      · repeat (first | refine VIf.tt ?_ | refine VIf.ff ?_)
        exact ⟨false, by unfold nowB; rw [h1]; rfl, (Wk.mk' id (by repeat' constructor) (by repeat' constructor) (injOK_id _) rfl rfl rfl)⟩
      repeat (first | refine VIf.tt ?_ | refine VIf.ff ?_)
      refine VRead.mk _ (cellAt hD7 2 rfl) ?_
      repeat (first | refine VIf.tt ?_ | refine VIf.ff ?_)
      refine VReads.mk (tdC t (.slice ad t.fl.length c)).toList rfl (rdAt hD6) ?_
      repeat (first | refine VIf.tt ?_ | refine VIf.ff ?_)
      refine VFn.p (Slot13_fn t _ n2 N7 (hv'.le (m4.trans l47)) ⟨hfr.2.2.1, hfr.2.2.2.1⟩ (by omega)) ?_
      repeat (first | refine VIf.tt ?_ | refine VIf.ff ?_)
      exact ⟨decide (f.s ≤ (n2 - t.fr) / 3600), by unfold nowB; rw [h1]; rfl, (Wk.mk' id (by repeat' constructor) (by repeat' constructor) (injOK_id _) rfl rfl rfl)⟩
    rintro b' m hb'
    repeat (first | refine VIf.tt ?_ | refine VIf.ff ?_)
    refine VReads.mk (tdC t (.slice ad t.fl.length c)).toList rfl (rdAt hD6) ?_
    repeat (first | refine VIf.tt ?_ | refine VIf.ff ?_)
    refine VReads.mk [.int .i64 x1, .int .i64 y1] rfl (rdAt hD8) ?_
    repeat (first | refine VIf.tt ?_ | refine VIf.ff ?_)
    refine VReads.mk [.int .i64 x2, .int .i64 y2] rfl (rdAt hD9) ?_
    repeat (first | refine VIf.tt ?_ | refine VIf.ff ?_)
    refine VFn.mk _ (Bound_is (hv'.le (m4.trans l47)) g) ?_
    rintro rs M8 hM8 ⟨fa, rfl, hJa⟩
    repeat (first | refine VIf.tt ?_ | refine VIf.ff ?_)
    refine VReads.mk (tdC (more t (L)) (.slice az (L).length cz)).toList rfl (rdAt (hM8 _ _ hD14)) ?_
    repeat (first | refine VIf.tt ?_ | refine VIf.ff ?_)
    refine VReads.mk [.int .i64 x1, .int .i64 y1] rfl (rdAt (hM8 _ _ hD8)) ?_
    repeat (first | refine VIf.tt ?_ | refine VIf.ff ?_)
    refine VReads.mk [.int .i64 x2, .int .i64 y2] rfl (rdAt (hM8 _ _ hD9)) ?_
    repeat (first | refine VIf.tt ?_ | refine VIf.ff ?_)
    refine VFn.mk _ (Bound_is (t := more t (L)) ((FlsV.of hz).le (l57.trans hM8)) g2) ?_
    rintro rs M9 hM9 ⟨fb, rfl, hJb⟩
    obtain ⟨la, lb, hl1, hl2⟩ := hI
    have key : (b && b') = true ∨ fa = fb := by
      rw [hb, hb']
      exact elsewhere hl1 (tm := more t (L)) hl2 rfl rfl hJa hJb
    have keyE : fa = fb → eqI [fa.x, fa.y, fa.s, fa.ul, fa.uh, fa.vl, fa.vh, fa.hl, fa.hh] [fb.x, fb.y, fb.s, fb.ul, fb.uh, fb.vl, fb.vh, fb.hl, fb.hh] = true := fun e => by rw [e]; exact (eqI_iff rfl).2 rfl
    cases b with
    | true =>
      cases b' with
      | true =>
        repeat (first | refine VIf.tt ?_ | refine VIf.ff ?_)
        repeat (first | refine VIf.tt ?_ | refine VIf.ff ?_)
        exact VFact.mk rfl trivial
      | false =>
        repeat (first | refine VIf.tt ?_ | refine VIf.ff ?_)
        repeat (first | refine VIf.tt ?_ | refine VIf.ff ?_)
        refine VFact.mk ?_ trivial
        exact congrArg (fun b => [Value.bool b]) (keyE (key.resolve_left (by decide)))
    | false =>
      repeat (first | refine VIf.tt ?_ | refine VIf.ff ?_)
      repeat (first | refine VIf.tt ?_ | refine VIf.ff ?_)
      refine VFact.mk ?_ trivial
      exact congrArg (fun b => [Value.bool b]) (keyE (key.resolve_left (by simp)))
end Go.Proofs.Ytlppfikkgcfaoaa.tideElsewhere

namespace Go.Proofs.Ytlppfikkgcfaoaa.tideElsewhere
open Go Go.V Go.RowKit Go.ChangeShapes Go.WideShapes Go.ChangeAt
set_option linter.unusedVariables false
set_option maxRecDepth 100000 in
theorem lifted (os : Os) (started : os.Started) (H : Type) (enc : TypeId × Value → H) :
    ReturnsInHanded {} Try.checked os 6 .any (Rows.tideElsewhereSpec.pre6 enc Try.prog Try.f6 Rows.tideElsewhereRow.domain false) (Rows.tideElsewhereSpec.post enc Try.prog Try.f6 false true false false) := by
  refine returnsInHanded_of_change (C := Try.checked) own started (by kernel_rfl) Try.func6
    (ChangeSpec.witness6 (enc := enc) (C := Try.checked) false ⟨#[], #[.agg #[.int .i64 0, .int .i64 0, .int .i64 0, .int .i64 0, .int .i64 0, .int .i64 0, .int .i64 0, .int .i64 0, .int .i64 0, .int .i64 0, .int .i64 0, .int .i64 0, .slice none 0 0], .agg #[.int .i64 0, .int .i64 0, .int .i64 0, .int .i64 0, .int .i64 0, .int .i64 0, .int .i64 0, .int .i64 0, .int .i64 0], .agg #[.int .i64 0, .int .i64 0], .agg #[.int .i64 0, .int .i64 0], .int .i64 0, .int .i64 0], []⟩ 8 (by kernel_rfl) (by kernel_rfl) (by kernel_rfl) (by kernel_rfl)) ?_
  intro W base args ds gs before hval0 hW hcnd _
  have hval : ∀ (j : Nat) t v, Try.f6.params[j]? = some t → args[j]? = some v → Value.okWide Try.prog W .any base t v := hval0
  have hW' := hW
  obtain ⟨p, q, hA0, hV, rfl, hfz, hnd⟩ := hW
  have hA : DataW.TrodAll enc Try.prog W 0 (fun _ => true) true Try.f6.params.toList args.toList ds p := hA0
  have hA1 := hA
  rw [Try.params6] at hA hval
  obtain ⟨v0, vs0, d0, ds0, p0, q0, hargs, rfl, rfl, h0, r0⟩ := trodAll_cons hA
  obtain ⟨v1, vs1, d1, ds1, p1, q1, rfl, rfl, rfl, h1, r1⟩ := trodAll_cons r0
  obtain ⟨v2, vs2, d2, ds2, p2, q2, rfl, rfl, rfl, h2, r2⟩ := trodAll_cons r1
  obtain ⟨v3, vs3, d3, ds3, p3, q3, rfl, rfl, rfl, h3, r3⟩ := trodAll_cons r2
  obtain ⟨v4, vs4, d4, ds4, p4, q4, rfl, rfl, rfl, h4, r4⟩ := trodAll_cons r3
  obtain ⟨v5, vs5, d5, ds5, p5, q5, rfl, rfl, rfl, h5, r5⟩ := trodAll_cons r4
  obtain ⟨rfl, rfl, rfl⟩ := trodAll_nil r5
  obtain rfl : args = #[v0, v1, v2, v3, v4, v5] := by cases args; simp_all
  obtain ⟨rfl, rfl⟩ := trodVars_none hV
  obtain ⟨ag0, rfl, _⟩ := okWide_struct Try.underlying28 (hval 0 28 v0 rfl rfl)
  obtain ⟨fuel0, t0⟩ := h0
  obtain ⟨l0, ⟨u0, e0, g0⟩, _⟩ := opens28 _ _ _ t0
  obtain ⟨ag0⟩ := ag0
  have e0 : ag0 = _ := e0
  subst e0
  obtain ⟨ag1, rfl, _⟩ := okWide_struct Try.underlying25 (hval 1 25 v1 rfl rfl)
  obtain ⟨fuel1, t1⟩ := h1
  obtain ⟨l1, e1, _⟩ := opens25 _ _ _ t1
  obtain ⟨ag1⟩ := ag1
  have e1 : ag1 = _ := e1
  subst e1
  obtain ⟨ag2, rfl, _⟩ := okWide_struct Try.underlying30 (hval 2 30 v2 rfl rfl)
  obtain ⟨fuel2, t2⟩ := h2
  obtain ⟨l2, ⟨e2, k2, m2⟩, _⟩ := opens30 _ _ _ t2
  obtain ⟨ag2⟩ := ag2
  have e2 : ag2 = _ := e2
  subst e2
  obtain ⟨ag3, rfl, _⟩ := okWide_struct Try.underlying30 (hval 3 30 v3 rfl rfl)
  obtain ⟨fuel3, t3⟩ := h3
  obtain ⟨l3, ⟨e3, k3, m3⟩, _⟩ := opens30 _ _ _ t3
  obtain ⟨ag3⟩ := ag3
  have e3 : ag3 = _ := e3
  subst e3
  obtain ⟨l4, rfl, rfl, rfl, k4⟩ := open_int Try.underlying3 (hval 4 3 v4 rfl rfl) h4
  obtain ⟨l5, rfl, rfl, rfl, k5⟩ := open_int Try.underlying3 (hval 5 3 v5 rfl rfl) h5
  simp only [List.append_nil] at hW' hA1
  refine ((law_fn l0 u0 l1 l2.1 l2.2 l3.1 l3.2 l4 l5 (memOf W) g0 (k2) (m2) (k3) (m3) (wf_i64 k4) (wf_i64 k5)).2 W (memOf_ok W)).mono fun e W' ⟨rs, M', he, hb, _, _, _, hr⟩ => ?_
  subst he hr
  exact ⟨_, rfl, post_of_below laid (by rw [Try.params6]; exact of_decide_eq_true (by kernel_rfl)) rfl hW' hA1
    (fun _ _ _ => (trodAll_cons_mk (shut_bool Try.underlying4 _) trodAll_mk0)) rfl rfl hb (ok_one (by kernel_rfl) rfl (okWide_bool_mk Try.underlying4 _))⟩

/-- The statement. -/
theorem proved : Rows.TideElsewhereSaid :=
  OpenClaim.holds_of_wide 6 Try.f6 rfl rfl rfl rfl rfl rfl rfl ⟨rfl, rfl, rfl, rfl, rfl⟩ rfl rfl rfl rfl rfl (by kernel_rfl) Try.func6 (by kernel_rfl)
    (of_decide_eq_true (by kernel_rfl)) (by unfold Func.isWrapper; first | (rw [if_pos (by decide +kernel)]; kernel_rfl) | (rw [if_neg (by decide +kernel)]; exact ⟨rfl, rfl⟩))
    (fun os started H enc _ => lifted os started H enc)
#print axioms proved
end Go.Proofs.Ytlppfikkgcfaoaa.tideElsewhere
