/- Plain geometry: the eight-sided hull. -/
import Derived.Test.YtdfhnemhkpplbaaGreatDoorHa6
set_option linter.unusedVariables false
set_option linter.unusedSimpArgs false
namespace Go.Proofs.YtdfhnemhkpplbaaGreatDoor
open Go
theorem fold_min (g : Pt → Int) : ∀ (l : List Pt) (m : Int), l.foldl (fun a p => min a (g p)) m ≤ m ∧ (∀ y ∈ l, l.foldl (fun a p => min a (g p)) m ≤ g y) ∧ (l.foldl (fun a p => min a (g p)) m = m ∨ ∃ y ∈ l, l.foldl (fun a p => min a (g p)) m = g y)
 | [], m => ⟨Int.le_refl _, by simp, .inl rfl⟩
 | x :: l, m => by
  obtain ⟨h1, h2, h3⟩ := fold_min g l (min m (g x))
  simp only [List.foldl_cons]
  refine ⟨by omega, fun y hy => ?_, ?_⟩
  ·rcases List.mem_cons.1 hy with rfl | hy
   ·omega
   ·exact h2 y hy
  ·rcases h3 with h3 | ⟨y, hy, h3⟩
   ·rcases Int.le_total m (g x) with h | h
    ·exact .inl (by omega)
    ·exact .inr ⟨x, by simp, by omega⟩
   ·exact .inr ⟨y, List.mem_cons_of_mem _ hy, h3⟩
theorem fold_max (g : Pt → Int) : ∀ (l : List Pt) (m : Int), m ≤ l.foldl (fun a p => max a (g p)) m ∧ (∀ y ∈ l, g y ≤ l.foldl (fun a p => max a (g p)) m) ∧ (l.foldl (fun a p => max a (g p)) m = m ∨ ∃ y ∈ l, l.foldl (fun a p => max a (g p)) m = g y)
 | [], m => ⟨Int.le_refl _, by simp, .inl rfl⟩
 | x :: l, m => by
  obtain ⟨h1, h2, h3⟩ := fold_max g l (max m (g x))
  simp only [List.foldl_cons]
  refine ⟨by omega, fun y hy => ?_, ?_⟩
  ·rcases List.mem_cons.1 hy with rfl | hy
   ·omega
   ·exact h2 y hy
  ·rcases h3 with h3 | ⟨y, hy, h3⟩
   ·rcases Int.le_total m (g x) with h | h
    ·exact .inr ⟨x, by simp, by omega⟩
    ·exact .inl (by omega)
   ·exact .inr ⟨y, List.mem_cons_of_mem _ hy, h3⟩
theorem lo_spec (g : Pt → Int) {ps : List Pt} (hn : 1 ≤ ps.length) : (∀ y ∈ ps, loB g ps ≤ g y) ∧ ∃ y ∈ ps, loB g ps = g y := by
 obtain ⟨h1, h2, h3⟩ := fold_min g ps (g (gp ps 0))
 refine ⟨h2, ?_⟩
 rcases h3 with h3 | h3
 ·exact ⟨_, gp_mem (by omega), h3⟩
 ·exact h3
theorem hi_spec (g : Pt → Int) {ps : List Pt} (hn : 1 ≤ ps.length) : (∀ y ∈ ps, g y ≤ hiB g ps) ∧ ∃ y ∈ ps, hiB g ps = g y := by
 obtain ⟨h1, h2, h3⟩ := fold_max g ps (g (gp ps 0))
 refine ⟨h2, ?_⟩
 rcases h3 with h3 | h3
 ·exact ⟨_, gp_mem (by omega), h3⟩
 ·exact h3
def fX (p : Pt) : Int := p.1
def fY (p : Pt) : Int := p.2
def fS (p : Pt) : Int := p.1 + p.2
def fD (p : Pt) : Int := p.1 - p.2
structure B8 where
 (a b c d s t u v : Int)
def b8 (p : List Pt) : B8 := ⟨loB fX p, hiB fX p, loB fY p, hiB fY p, loB fS p, hiB fS p, loB fD p, hiB fD p⟩
def B8.has (B : B8) (x : Pt) : Prop := B.a ≤ x.1 ∧ x.1 ≤ B.b ∧ B.c ≤ x.2 ∧ x.2 ≤ B.d ∧ B.s ≤ x.1 + x.2 ∧ x.1 + x.2 ≤ B.t ∧ B.u ≤ x.1 - x.2 ∧ x.1 - x.2 ≤ B.v
structure B8.Met (B : B8) : Prop where
 a : ∃ x, B.has x ∧ x.1 = B.a
 b : ∃ x, B.has x ∧ x.1 = B.b
 c : ∃ x, B.has x ∧ x.2 = B.c
 d : ∃ x, B.has x ∧ x.2 = B.d
 s : ∃ x, B.has x ∧ x.1 + x.2 = B.s
 t : ∃ x, B.has x ∧ x.1 + x.2 = B.t
 u : ∃ x, B.has x ∧ x.1 - x.2 = B.u
 v : ∃ x, B.has x ∧ x.1 - x.2 = B.v
theorem b8_has {p : List Pt} (hn : 1 ≤ p.length) : ∀ x ∈ p, (b8 p).has x := fun x hx =>
 ⟨(lo_spec fX hn).1 x hx, (hi_spec fX hn).1 x hx, (lo_spec fY hn).1 x hx, (hi_spec fY hn).1 x hx, (lo_spec fS hn).1 x hx, (hi_spec fS hn).1 x hx, (lo_spec fD hn).1 x hx, (hi_spec fD hn).1 x hx⟩
theorem b8_met {p : List Pt} (hn : 1 ≤ p.length) : (b8 p).Met := by
 have h := b8_has hn
 refine ⟨?_, ?_, ?_, ?_, ?_, ?_, ?_, ?_⟩
 ·obtain ⟨y, hy, e⟩ := (lo_spec fX hn).2; exact ⟨y, h y hy, e.symm⟩
 ·obtain ⟨y, hy, e⟩ := (hi_spec fX hn).2; exact ⟨y, h y hy, e.symm⟩
 ·obtain ⟨y, hy, e⟩ := (lo_spec fY hn).2; exact ⟨y, h y hy, e.symm⟩
 ·obtain ⟨y, hy, e⟩ := (hi_spec fY hn).2; exact ⟨y, h y hy, e.symm⟩
 ·obtain ⟨y, hy, e⟩ := (lo_spec fS hn).2; exact ⟨y, h y hy, e.symm⟩
 ·obtain ⟨y, hy, e⟩ := (hi_spec fS hn).2; exact ⟨y, h y hy, e.symm⟩
 ·obtain ⟨y, hy, e⟩ := (lo_spec fD hn).2; exact ⟨y, h y hy, e.symm⟩
 ·obtain ⟨y, hy, e⟩ := (hi_spec fD hn).2; exact ⟨y, h y hy, e.symm⟩
def B8.pts (B : B8) : List Pt := [(B.a, B.s - B.a), (B.a, B.a - B.u), (B.b, B.b - B.v), (B.b, B.t - B.b), (B.s - B.c, B.c), (B.c + B.v, B.c), (B.d + B.u, B.d), (B.t - B.d, B.d)]
def B8.ptsP (B : B8) : List Pt := [(B.a, max (max B.c (B.s - B.a)) (B.a - B.v)), (B.a, min (min B.d (B.t - B.a)) (B.a - B.u)), (B.b, max (max B.c (B.s - B.b)) (B.b - B.v)), (B.b, min (min B.d (B.t - B.b)) (B.b - B.u)),
 (max (max B.a (B.s - B.c)) (B.c + B.u), B.c), (min (min B.b (B.t - B.c)) (B.c + B.v), B.c), (max (max B.a (B.s - B.d)) (B.d + B.u), B.d), (min (min B.b (B.t - B.d)) (B.d + B.v), B.d)]
structure B8.In (B : B8) : Prop where
 h1 : B.a ≤ B.b ∧ B.c ≤ B.d ∧ B.s ≤ B.t ∧ B.u ≤ B.v
 h2 : B.a + B.c ≤ B.s ∧ 2 * B.a ≤ B.s + B.v ∧ B.s ≤ B.a + B.d
 h3 : B.a ≤ B.d + B.u ∧ 2 * B.a ≤ B.t + B.u ∧ B.c ≤ B.a - B.u
 h4 : B.c + B.v ≤ B.b ∧ B.s + B.v ≤ 2 * B.b ∧ B.b - B.v ≤ B.d
 h5 : B.t - B.d ≤ B.b ∧ B.t + B.u ≤ 2 * B.b ∧ B.b + B.c ≤ B.t
 h6 : 2 * B.c ≤ B.s - B.u ∧ B.s - B.c ≤ B.b
 h7 : 2 * B.c ≤ B.t - B.v ∧ B.a ≤ B.c + B.v
 h8 : B.s - B.u ≤ 2 * B.d ∧ B.d + B.u ≤ B.b
 h9 : B.t - B.v ≤ 2 * B.d ∧ B.a ≤ B.t - B.d
 h10 : B.s + B.u ≤ 2 * B.a ∧ 2 * B.b ≤ B.t + B.v
 h11 : B.s - B.v ≤ 2 * B.c ∧ 2 * B.d ≤ B.t - B.u
theorem B8.Met.in {B : B8} (h : B.Met) : B.In := by
 obtain ⟨⟨xa, ha, ea⟩, ⟨xb, hb, eb⟩, ⟨xc, hc, ec⟩, ⟨xd, hd, ed⟩, ⟨xs, hs, es⟩, ⟨xt, ht, et⟩, ⟨xu, hu, eu⟩, ⟨xv, hv, ev⟩⟩ := h
 unfold B8.has at *
 constructor <;> omega
theorem B8.In.eq {B : B8} (h : B.In) : B.ptsP = B.pts := by
 obtain ⟨h1, h2, h3, h4, h5, h6, h7, h8, h9, h10, h11⟩ := h
 unfold B8.ptsP B8.pts
 have e1 : max (max B.c (B.s - B.a)) (B.a - B.v) = B.s - B.a := by omega
 have e2 : min (min B.d (B.t - B.a)) (B.a - B.u) = B.a - B.u := by omega
 have e3 : max (max B.c (B.s - B.b)) (B.b - B.v) = B.b - B.v := by omega
 have e4 : min (min B.d (B.t - B.b)) (B.b - B.u) = B.t - B.b := by omega
 have e5 : max (max B.a (B.s - B.c)) (B.c + B.u) = B.s - B.c := by omega
 have e6 : min (min B.b (B.t - B.c)) (B.c + B.v) = B.c + B.v := by omega
 have e7 : max (max B.a (B.s - B.d)) (B.d + B.u) = B.d + B.u := by omega
 have e8 : min (min B.b (B.t - B.d)) (B.d + B.v) = B.t - B.d := by omega
 rw [e1, e2, e3, e4, e5, e6, e7, e8]
theorem B8.In.pts_has {B : B8} (h : B.In) : ∀ x ∈ B.pts, B.has x := by
 obtain ⟨h1, h2, h3, h4, h5, h6, h7, h8, h9, h10, h11⟩ := h
 intro x hx
 unfold B8.pts at hx
 simp only [List.mem_cons, List.not_mem_nil, or_false] at hx
 unfold B8.has
 rcases hx with rfl | rfl | rfl | rfl | rfl | rfl | rfl | rfl <;> (simp only; omega)
theorem B8.lin {B : B8} {x : Pt} (hx : B.has x) (α β γ : Int) (h : ∀ y ∈ B.pts, 0 ≤ aff α β γ y) : 0 ≤ aff α β γ x := by
 obtain ⟨g1, g2, g3, g4, g5, g6, g7, g8⟩ := hx
 have P := fun (y : Pt) (hy : y ∈ B.pts) => h y hy
 unfold B8.pts at P
 have p1 := P (B.a, B.s - B.a) (by simp)
 have p2 := P (B.a, B.a - B.u) (by simp)
 have p3 := P (B.b, B.b - B.v) (by simp)
 have p4 := P (B.b, B.t - B.b) (by simp)
 have p5 := P (B.s - B.c, B.c) (by simp)
 have p6 := P (B.c + B.v, B.c) (by simp)
 have p7 := P (B.d + B.u, B.d) (by simp)
 have p8 := P (B.t - B.d, B.d) (by simp)
 clear P h
 obtain ⟨a, b, c, d, s, t, u, v⟩ := B
 simp only at *
 unfold aff at *
 simp only at *
 have m : ∀ k z : Int, 0 ≤ k → 0 ≤ z → 0 ≤ k * z := fun k z h1 h2 => Int.mul_nonneg h1 h2
 rcases Int.le_total 0 α with ha | ha <;> rcases Int.le_total 0 β with hb | hb
 ·rcases Int.le_total β α with hc | hc
  ·have e : α * x.1 + β * x.2 = α * a + β * (s - a) + (α - β) * (x.1 - a) + β * (x.1 + x.2 - s) := by grind
   have := m (α - β) (x.1 - a) (by omega) (by omega)
   have := m β (x.1 + x.2 - s) hb (by omega)
   omega
  ·have e : α * x.1 + β * x.2 = α * (s - c) + β * c + (β - α) * (x.2 - c) + α * (x.1 + x.2 - s) := by grind
   have := m (β - α) (x.2 - c) (by omega) (by omega)
   have := m α (x.1 + x.2 - s) ha (by omega)
   omega
 ·rcases Int.le_total (-β) α with hc | hc
  ·have e : α * x.1 + β * x.2 = α * a + β * (a - u) + (α + β) * (x.1 - a) + (-β) * (x.1 - x.2 - u) := by grind
   have := m (α + β) (x.1 - a) (by omega) (by omega)
   have := m (-β) (x.1 - x.2 - u) (by omega) (by omega)
   omega
  ·have e : α * x.1 + β * x.2 = α * (d + u) + β * d + (-β - α) * (d - x.2) + α * (x.1 - x.2 - u) := by grind
   have := m (-β - α) (d - x.2) (by omega) (by omega)
   have := m α (x.1 - x.2 - u) ha (by omega)
   omega
 ·rcases Int.le_total β (-α) with hc | hc
  ·have e : α * x.1 + β * x.2 = α * b + β * (b - v) + (-α - β) * (b - x.1) + β * (v - (x.1 - x.2)) := by grind
   have := m (-α - β) (b - x.1) (by omega) (by omega)
   have := m β (v - (x.1 - x.2)) hb (by omega)
   omega
  ·have e : α * x.1 + β * x.2 = α * (c + v) + β * c + (β + α) * (x.2 - c) + (-α) * (v - (x.1 - x.2)) := by grind
   have := m (β + α) (x.2 - c) (by omega) (by omega)
   have := m (-α) (v - (x.1 - x.2)) (by omega) (by omega)
   omega
 ·rcases Int.le_total (-β) (-α) with hc | hc
  ·have e : α * x.1 + β * x.2 = α * b + β * (t - b) + (β - α) * (b - x.1) + (-β) * (t - (x.1 + x.2)) := by grind
   have := m (β - α) (b - x.1) (by omega) (by omega)
   have := m (-β) (t - (x.1 + x.2)) (by omega) (by omega)
   omega
  ·have e : α * x.1 + β * x.2 = α * (t - d) + β * d + (α - β) * (d - x.2) + (-α) * (t - (x.1 + x.2)) := by grind
   have := m (α - β) (d - x.2) (by omega) (by omega)
   have := m (-α) (t - (x.1 + x.2)) (by omega) (by omega)
   omega
theorem hl_lin {S q : List Pt} (h : Hl S q) {x : Pt} (hx : ∀ α β γ : Int, (∀ y ∈ S, 0 ≤ aff α β γ y) → 0 ≤ aff α β γ x) : hasB q x = true := by
 cases h with
 | one a hq hS ha =>
  subst hq
  have e1 := hx 1 0 (-a.1) (fun y hy => by rw [hS y hy]; unfold aff; omega)
  have e2 := hx (-1) 0 a.1 (fun y hy => by rw [hS y hy]; unfold aff; omega)
  have e3 := hx 0 1 (-a.2) (fun y hy => by rw [hS y hy]; unfold aff; omega)
  have e4 := hx 0 (-1) a.2 (fun y hy => by rw [hS y hy]; unfold aff; omega)
  unfold aff at e1 e2 e3 e4
  have : a = x := Prod.ext (by omega) (by omega)
  simp [hasB, gp, this]
 | many h =>
  have hn := h.two
  have cr : ∀ i, i < q.length → 0 ≤ crossP (gp q i) (gp q ((i + 1) % q.length)) x := fun i hi => by
   have := hx _ _ _ (fun y hy => by
    rw [← cross_aff (gp q i) (gp q ((i + 1) % q.length))]
    rcases (h.side i hi).2.2.2 y hy with g | ⟨g, _⟩ <;> omega)
   rw [← cross_aff] at this
   exact this
  unfold hasB
  rw [if_neg (by omega)]
  by_cases h2 : q.length = 2
  ·rw [if_pos h2]
   have c0 := cr 0 (by omega)
   have c1 := cr 1 (by omega)
   rw [h2] at c0 c1
   have e1 : crossP (gp q 1) (gp q ((1 + 1) % 2)) x = - crossP (gp q 0) (gp q 1) x := cross_flip _ _ _
   rw [e1] at c1
   have e0 : crossP (gp q 0) (gp q ((0 + 1) % 2)) x = crossP (gp q 0) (gp q 1) x := rfl
   rw [e0] at c0
   have hz : crossP (gp q 0) (gp q 1) x = 0 := by omega
   simp only [Bool.and_eq_true, decide_eq_true_eq]
   refine ⟨hz, ?_⟩
   have hs : ∀ y ∈ S, betwB (gp q 0) (gp q 1) y = true := fun y hy => by
    have s0 := (h.side 0 (by omega)).2.2.2 y hy
    have s1 := (h.side 1 (by omega)).2.2.2 y hy
    rw [h2] at s0 s1
    have e1 : crossP (gp q 1) (gp q ((1 + 1) % 2)) y = - crossP (gp q 0) (gp q 1) y := cross_flip _ _ _
    have e0 : crossP (gp q 0) (gp q ((0 + 1) % 2)) y = crossP (gp q 0) (gp q 1) y := rfl
    rw [e1] at s1
    rw [e0] at s0
    rcases s0 with s0 | ⟨s0, b0⟩
    ·rcases s1 with s1 | ⟨s1, _⟩ <;> omega
    ·exact b0
   generalize gp q 0 = a at *
   generalize gp q 1 = b at *
   have d1 : ∀ m : Int, (∀ y ∈ S, m ≤ y.1) → m ≤ x.1 := fun m hm => by
    have := hx 1 0 (-m) (fun y hy => by have := hm y hy; unfold aff; omega)
    unfold aff at this; omega
   have d2 : ∀ m : Int, (∀ y ∈ S, y.1 ≤ m) → x.1 ≤ m := fun m hm => by
    have := hx (-1) 0 m (fun y hy => by have := hm y hy; unfold aff; omega)
    unfold aff at this; omega
   have d3 : ∀ m : Int, (∀ y ∈ S, m ≤ y.2) → m ≤ x.2 := fun m hm => by
    have := hx 0 1 (-m) (fun y hy => by have := hm y hy; unfold aff; omega)
    unfold aff at this; omega
   have d4 : ∀ m : Int, (∀ y ∈ S, y.2 ≤ m) → x.2 ≤ m := fun m hm => by
    have := hx 0 (-1) m (fun y hy => by have := hm y hy; unfold aff; omega)
    unfold aff at this; omega
   simp only [betwB, decide_eq_true_eq] at hs ⊢
   exact ⟨d1 _ fun y hy => (hs y hy).1, d2 _ fun y hy => (hs y hy).2.1, d3 _ fun y hy => (hs y hy).2.2.1, d4 _ fun y hy => (hs y hy).2.2.2⟩
  ·rw [if_neg h2]
   exact all_true fun i hi => decide_eq_true (cr i hi)
def eightP (p : List Pt) : List Pt := aroundP (b8 p).ptsP
theorem hl_len {S q : List Pt} (h : Hl S q) : q.length ≤ S.length := by
 have hnd : q.Nodup := by
  cases h with
  | one a hq => subst hq; simp
  | many h =>
   show q.Pairwise _
   rw [List.pairwise_iff_getElem]
   intro i j hi hj hij e
   refine h.inj i j hij hj ?_
   simp [gp, List.getD_eq_getElem?_getD, List.getElem?_eq_getElem hi, List.getElem?_eq_getElem hj, e]
 have := sum_sub (fun _ : Pt => (1 : Int)) hnd h.sub (fun _ _ => by decide)
 have e : ∀ l : List Pt, (l.map fun _ => (1 : Int)).sum = l.length := fun l => by
  induction l with
  | nil => rfl
  | cons a l ih => simp only [List.map_cons, List.sum_cons, ih, List.length_cons]; omega
 rw [e, e] at this
 omega
theorem eight_spec {p : List Pt} (hv : validB p = true) : Hl (b8 p).pts (eightP p) ∧ validB (eightP p) = true ∧ (eightP p).length ≤ 8 ∧ b8 (eightP p) = b8 p ∧ (∀ x ∈ (b8 p).pts, placeB x = true) ∧ ∀ x, (b8 p).has x → hasB (eightP p) x = true := by
 have hn := (len_one hv).1
 have hm := b8_met hn
 have hi := hm.in
 have hpts := hi.pts_has
 have hh : Hl (b8 p).pts (eightP p) := by
  unfold eightP
  rw [hi.eq]
  exact around_hl (by simp [B8.pts])
 have hpl : ∀ x ∈ (b8 p).pts, placeB x = true := fun x hx => by
  obtain ⟨⟨xa, ka, ea⟩, ⟨xb, kb, eb⟩, ⟨xc, kc, ec⟩, ⟨xd, kd, ed⟩, _⟩ := hm
  have hx := hpts x hx
  have bd : ∀ y ∈ p, -500000 ≤ y.1 ∧ y.1 ≤ 500000 ∧ -500000 ≤ y.2 ∧ y.2 ≤ 500000 := fun y hy => by
   obtain ⟨i, hi, rfl⟩ := mem_gp hy
   exact place_bd (valid_place hv hi)
  obtain ⟨y1, m1, e1⟩ := (lo_spec fX hn).2
  obtain ⟨y2, m2, e2⟩ := (hi_spec fX hn).2
  obtain ⟨y3, m3, e3⟩ := (lo_spec fY hn).2
  obtain ⟨y4, m4, e4⟩ := (hi_spec fY hn).2
  have b1 := bd y1 m1
  have b2 := bd y2 m2
  have b3 := bd y3 m3
  have b4 := bd y4 m4
  unfold fX at e1 e2
  unfold fY at e3 e4
  have f1 : (b8 p).a = y1.1 := e1
  have f2 : (b8 p).b = y2.1 := e2
  have f3 : (b8 p).c = y3.2 := e3
  have f4 : (b8 p).d = y4.2 := e4
  unfold B8.has at hx
  simp only [placeB, isCb, Bool.and_eq_true, decide_eq_true_eq]
  omega
 have h8 : (eightP p).length ≤ 8 := hl_len hh
 have hval : validB (eightP p) = true := hh.valid hpl (by omega)
 refine ⟨hh, hval, h8, ?_, hpl, fun x hx => hl_lin hh fun α β γ h => B8.lin hx α β γ h⟩
 have hq := (len_one hval).1
 have lo : ∀ (α β : Int) (g : Pt → Int), (∀ y, g y = α * y.1 + β * y.2) → ∀ m, (∀ y ∈ (b8 p).pts, m ≤ g y) → (∃ y ∈ (b8 p).pts, g y = m) → loB g (eightP p) = m := by
  intro α β g hg m h1 ⟨y, hy, e⟩
  obtain ⟨l1, z, hz, l2⟩ := lo_spec g hq
  refine Int.le_antisymm ?_ (by rw [l2]; exact h1 z (hh.sub z hz))
  have := at_corners hval (hh.has hy) α β (- loB g (eightP p)) (fun i hi => by
   have := l1 _ (gp_mem hi)
   rw [hg] at this
   unfold aff; omega)
  unfold aff at this
  rw [hg] at e
  omega
 have hi' : ∀ (α β : Int) (g : Pt → Int), (∀ y, g y = α * y.1 + β * y.2) → ∀ m, (∀ y ∈ (b8 p).pts, g y ≤ m) → (∃ y ∈ (b8 p).pts, g y = m) → hiB g (eightP p) = m := by
  intro α β g hg m h1 ⟨y, hy, e⟩
  obtain ⟨l1, z, hz, l2⟩ := hi_spec g hq
  refine Int.le_antisymm (by rw [l2]; exact h1 z (hh.sub z hz)) ?_
  have := at_corners hval (hh.has hy) (-α) (-β) (hiB g (eightP p)) (fun i hi => by
   have := l1 _ (gp_mem hi)
   rw [hg] at this
   unfold aff
   rw [Int.neg_mul, Int.neg_mul]; omega)
  unfold aff at this
  rw [Int.neg_mul, Int.neg_mul] at this
  rw [hg] at e
  omega
 have q := fun y hy => hpts y hy
 have c1 := lo 1 0 fX (fun y => by unfold fX; omega) (b8 p).a (fun y hy => (q y hy).1) ⟨((b8 p).a, (b8 p).s - (b8 p).a), by simp [B8.pts], rfl⟩
 have c2 := hi' 1 0 fX (fun y => by unfold fX; omega) (b8 p).b (fun y hy => (q y hy).2.1) ⟨((b8 p).b, (b8 p).b - (b8 p).v), by simp [B8.pts], rfl⟩
 have c3 := lo 0 1 fY (fun y => by unfold fY; omega) (b8 p).c (fun y hy => (q y hy).2.2.1) ⟨((b8 p).s - (b8 p).c, (b8 p).c), by simp [B8.pts], rfl⟩
 have c4 := hi' 0 1 fY (fun y => by unfold fY; omega) (b8 p).d (fun y hy => (q y hy).2.2.2.1) ⟨((b8 p).d + (b8 p).u, (b8 p).d), by simp [B8.pts], rfl⟩
 have c5 := lo 1 1 fS (fun y => by unfold fS; omega) (b8 p).s (fun y hy => (q y hy).2.2.2.2.1) ⟨((b8 p).a, (b8 p).s - (b8 p).a), by simp [B8.pts], by unfold fS; simp only; omega⟩
 have c6 := hi' 1 1 fS (fun y => by unfold fS; omega) (b8 p).t (fun y hy => (q y hy).2.2.2.2.2.1) ⟨((b8 p).b, (b8 p).t - (b8 p).b), by simp [B8.pts], by unfold fS; simp only; omega⟩
 have c7 := lo 1 (-1) fD (fun y => by unfold fD; omega) (b8 p).u (fun y hy => (q y hy).2.2.2.2.2.2.1) ⟨((b8 p).a, (b8 p).a - (b8 p).u), by simp [B8.pts], by unfold fD; simp only; omega⟩
 have c8 := hi' 1 (-1) fD (fun y => by unfold fD; omega) (b8 p).v (fun y hy => (q y hy).2.2.2.2.2.2.2) ⟨((b8 p).b, (b8 p).b - (b8 p).v), by simp [B8.pts], by unfold fD; simp only; omega⟩
 show (⟨loB fX (eightP p), hiB fX (eightP p), loB fY (eightP p), hiB fY (eightP p), loB fS (eightP p), hiB fS (eightP p), loB fD (eightP p), hiB fD (eightP p)⟩ : B8) = _
 rw [c1, c2, c3, c4, c5, c6, c7, c8]
theorem has_b8 {p : List Pt} (hv : validB p = true) {x : Pt} (hx : hasB p x = true) : (b8 p).has x := by
 have hn := (len_one hv).1
 have h := fun i (hi : i < p.length) => b8_has hn (gp p i) (gp_mem hi)
 have e1 := at_corners hv hx 1 0 (-(b8 p).a) (fun i hi => by have := h i hi; unfold B8.has at this; unfold aff; omega)
 have e2 := at_corners hv hx (-1) 0 (b8 p).b (fun i hi => by have := h i hi; unfold B8.has at this; unfold aff; omega)
 have e3 := at_corners hv hx 0 1 (-(b8 p).c) (fun i hi => by have := h i hi; unfold B8.has at this; unfold aff; omega)
 have e4 := at_corners hv hx 0 (-1) (b8 p).d (fun i hi => by have := h i hi; unfold B8.has at this; unfold aff; omega)
 have e5 := at_corners hv hx 1 1 (-(b8 p).s) (fun i hi => by have := h i hi; unfold B8.has at this; unfold aff; omega)
 have e6 := at_corners hv hx (-1) (-1) (b8 p).t (fun i hi => by have := h i hi; unfold B8.has at this; unfold aff; omega)
 have e7 := at_corners hv hx 1 (-1) (-(b8 p).u) (fun i hi => by have := h i hi; unfold B8.has at this; unfold aff; omega)
 have e8 := at_corners hv hx (-1) 1 (b8 p).v (fun i hi => by have := h i hi; unfold B8.has at this; unfold aff; omega)
 unfold aff at e1 e2 e3 e4 e5 e6 e7 e8
 unfold B8.has
 omega
end Go.Proofs.YtdfhnemhkpplbaaGreatDoor
namespace Go.Proofs.YtdfhnemhkpplbaaGreatDoor
open Go
structure Lin where
 (a b c : Rat)
abbrev P2 := Rat × Rat
def Lin.at (f : Lin) (z : P2) : Rat := f.a * z.1 + f.b * z.2 + f.c
def Lin.dir (f : Lin) (v : P2) : Rat := f.a * v.1 + f.b * v.2
def mvP (z v : P2) (t : Rat) : P2 := (z.1 + t * v.1, z.2 + t * v.2)
theorem at_mv (f : Lin) (z v : P2) (t : Rat) : f.at (mvP z v t) = f.at z + t * f.dir v := by unfold Lin.at Lin.dir mvP; grind
def q2 (p : Pt) : P2 := ((p.1 : Rat), (p.2 : Rat))
def linI (α β γ : Int) : Lin := ⟨α, β, γ⟩
theorem linI_at (α β γ : Int) (x : Pt) : (linI α β γ).at (q2 x) = ((aff α β γ x : Int) : Rat) := by
 unfold linI Lin.at q2 aff; push_cast; rfl
theorem linI_nonneg {α β γ : Int} {x : Pt} : 0 ≤ (linI α β γ).at (q2 x) ↔ 0 ≤ aff α β γ x := by
 rw [linI_at]; exact_mod_cast Iff.rfl
theorem slide_list : ∀ (L : List (Rat × Rat)), (∀ e ∈ L, 0 ≤ e.1) → (∃ e ∈ L, e.2 < 0) → ∃ t, 0 ≤ t ∧ (∀ e ∈ L, 0 ≤ e.1 + t * e.2) ∧ ∃ e ∈ L, e.2 < 0 ∧ e.1 + t * e.2 = 0
 | [], _, ⟨e, he, _⟩ => by cases he
 | e :: L, h0, hr => by
  have h0L : ∀ e ∈ L, 0 ≤ e.1 := fun x hx => h0 x (List.mem_cons_of_mem _ hx)
  have he0 := h0 e List.mem_cons_self
  have stay : ∀ {x t : Rat}, ∀ {y : Rat}, 0 ≤ x → 0 ≤ t → 0 ≤ y → 0 ≤ x + t * y := fun hx ht hy => by
   have := Rat.mul_nonneg ht hy
   grind
  -- where this one is met
  have hte : e.2 < 0 → ∃ t, 0 ≤ t ∧ e.1 + t * e.2 = 0 := fun h => by
   refine ⟨e.1 / (-e.2), ?_, ?_⟩
   ·rw [Rat.div_def]
    refine Rat.mul_nonneg he0 ?_
    have : 0 < -e.2 := by grind
    exact Rat.le_of_lt (Rat.inv_pos.2 this)
   ·have : e.2 ≠ 0 := by grind
    grind
  have less : ∀ {x y t t' : Rat}, 0 ≤ x → 0 ≤ t → t ≤ t' → 0 ≤ x + t' * y → 0 ≤ x + t * y := fun {x y t t'} hx ht htt h => by
   by_cases hy : 0 ≤ y
   ·exact stay hx ht hy
   ·have := Rat.mul_nonneg (show 0 ≤ t' - t by grind) (show 0 ≤ -y by grind)
    grind
  by_cases hL : ∃ e ∈ L, e.2 < 0
  ·obtain ⟨t0, p1, p2, x, hx, p3, p4⟩ := slide_list L h0L hL
   by_cases he : e.2 < 0
   ·obtain ⟨te, q1, q2⟩ := hte he
    by_cases hc : t0 ≤ te
    ·refine ⟨t0, p1, fun y hy => ?_, x, List.mem_cons_of_mem _ hx, p3, p4⟩
     rcases List.mem_cons.1 hy with rfl | hy
     ·exact less he0 p1 hc (by rw [q2]; exact Rat.le_refl)
     ·exact p2 y hy
    ·refine ⟨te, q1, fun y hy => ?_, e, List.mem_cons_self, he, q2⟩
     rcases List.mem_cons.1 hy with rfl | hy
     ·rw [q2]; exact Rat.le_refl
     ·exact less (h0L y hy) q1 (by grind) (p2 y hy)
   ·refine ⟨t0, p1, fun y hy => ?_, x, List.mem_cons_of_mem _ hx, p3, p4⟩
    rcases List.mem_cons.1 hy with rfl | hy
    ·exact stay he0 p1 (by grind)
    ·exact p2 y hy
  ·have he : e.2 < 0 := by
    obtain ⟨x, hx, h⟩ := hr
    rcases List.mem_cons.1 hx with rfl | hx
    ·exact h
    ·exact absurd ⟨x, hx, h⟩ hL
   obtain ⟨te, q1, q2⟩ := hte he
   refine ⟨te, q1, fun y hy => ?_, e, List.mem_cons_self, he, q2⟩
   rcases List.mem_cons.1 hy with rfl | hy
   ·rw [q2]; exact Rat.le_refl
   ·exact stay (h0L y hy) q1 (by
     have : ¬ y.2 < 0 := fun h => hL ⟨y, hy, h⟩
     grind)
theorem slide_lin (L : List Lin) (z v : P2) (h0 : ∀ c ∈ L, 0 ≤ c.at z) (hr : ∃ c ∈ L, c.dir v < 0) : ∃ t, 0 ≤ t ∧ (∀ c ∈ L, 0 ≤ c.at (mvP z v t)) ∧ ∃ c ∈ L, c.dir v < 0 ∧ c.at (mvP z v t) = 0 := by
 obtain ⟨t, h1, h2, e, he, h3, h4⟩ := slide_list (L.map fun c => (c.at z, c.dir v)) (fun e he => by
  obtain ⟨c, hc, rfl⟩ := List.mem_map.1 he; exact h0 c hc) (by
  obtain ⟨c, hc, h⟩ := hr; exact ⟨_, List.mem_map.2 ⟨c, hc, rfl⟩, h⟩)
 obtain ⟨c, hc, rfl⟩ := List.mem_map.1 he
 refine ⟨t, h1, fun c hc => ?_, c, hc, h3, ?_⟩
 ·rw [at_mv]; exact h2 _ (List.mem_map.2 ⟨c, hc, rfl⟩)
 ·rw [at_mv]; exact h4
def vecQ (a b : Pt) : P2 := ((b.1 : Rat) - a.1, (b.2 : Rat) - a.2)
def segQ (a b : Pt) (s : Rat) : P2 := mvP (q2 a) (vecQ a b) s
theorem segQ_0 (a b : Pt) : segQ a b 0 = q2 a := by unfold segQ mvP vecQ q2; ext <;> simp <;> grind
theorem segQ_1 (a b : Pt) : segQ a b 1 = q2 b := by unfold segQ mvP vecQ q2; ext <;> simp <;> grind
theorem mvP_add (z v : P2) (s t : Rat) : mvP (mvP z v s) v t = mvP z v (s + t) := by unfold mvP; ext <;> grind
theorem segQ_at (f : Lin) (a b : Pt) (s : Rat) : f.at (segQ a b s) = (1 - s) * f.at (q2 a) + s * f.at (q2 b) := by unfold Lin.at segQ mvP vecQ q2; grind
theorem slide_seg (a b : Pt) (L : List Lin) (f : Lin) (s : Rat) (h1 : 0 ≤ s) (h2 : s ≤ 1) (hL : ∀ c ∈ L, 0 ≤ c.at (segQ a b s)) (hf : f.at (segQ a b s) < 0) :
  ∃ s', 0 ≤ s' ∧ s' ≤ 1 ∧ (∀ c ∈ L, 0 ≤ c.at (segQ a b s')) ∧ f.at (segQ a b s') < 0 ∧ (s' = 0 ∨ s' = 1 ∨ ∃ c ∈ L, c.at (segQ a b s') = 0 ∧ c.dir (vecQ a b) ≠ 0) := by
 have go : ∀ t, segQ a b (s + t) = mvP (segQ a b s) (vecQ a b) t := fun t => (mvP_add _ _ _ _).symm
 by_cases hd : f.dir (vecQ a b) ≤ 0
 ·obtain ⟨t, k1, k2, e, he, k3, k4⟩ := slide_list ((1 - s, -1) :: L.map fun c => (c.at (segQ a b s), c.dir (vecQ a b))) (fun e he => by
   rcases List.mem_cons.1 he with rfl | he
   ·show 0 ≤ 1 - s; grind
   ·obtain ⟨c, hc, rfl⟩ := List.mem_map.1 he; exact hL c hc) ⟨_, List.mem_cons_self, by show (-1 : Rat) < 0; decide⟩
  have hs1 : 0 ≤ 1 - s + t * -1 := k2 _ List.mem_cons_self
  have htd := Rat.mul_nonneg k1 (show 0 ≤ -f.dir (vecQ a b) by grind)
  refine ⟨s + t, by grind, by grind, fun c hc => ?_, ?_, ?_⟩
  ·rw [go, at_mv]; exact k2 _ (List.mem_cons_of_mem _ (List.mem_map.2 ⟨c, hc, rfl⟩))
  ·rw [go, at_mv]; grind
  ·rcases List.mem_cons.1 he with rfl | he
   ·have : 1 - s + t * -1 = 0 := k4
    exact .inr (.inl (by grind))
   ·obtain ⟨c, hc, rfl⟩ := List.mem_map.1 he
    have k3 : c.dir (vecQ a b) < 0 := k3
    refine .inr (.inr ⟨c, hc, ?_, by grind⟩)
    rw [go, at_mv]; exact k4
 ·obtain ⟨t, k1, k2, e, he, k3, k4⟩ := slide_list ((s, -1) :: L.map fun c => (c.at (segQ a b s), -c.dir (vecQ a b))) (fun e he => by
   rcases List.mem_cons.1 he with rfl | he
   ·exact h1
   ·obtain ⟨c, hc, rfl⟩ := List.mem_map.1 he; exact hL c hc) ⟨_, List.mem_cons_self, by show (-1 : Rat) < 0; decide⟩
  have hs1 : 0 ≤ s + t * -1 := k2 _ List.mem_cons_self
  have htd := Rat.mul_nonneg k1 (show 0 ≤ f.dir (vecQ a b) by grind)
  have back : ∀ c : Lin, c.at (segQ a b (s + -t)) = c.at (segQ a b s) + t * -c.dir (vecQ a b) := fun c => by rw [go, at_mv]; grind
  refine ⟨s + -t, by grind, by grind, fun c hc => ?_, ?_, ?_⟩
  ·rw [back]; exact k2 _ (List.mem_cons_of_mem _ (List.mem_map.2 ⟨c, hc, rfl⟩))
  ·rw [back]; grind
  ·rcases List.mem_cons.1 he with rfl | he
   ·have : s + t * -1 = 0 := k4
    exact .inl (by grind)
   ·obtain ⟨c, hc, rfl⟩ := List.mem_map.1 he
    have k3 : -c.dir (vecQ a b) < 0 := k3
    refine .inr (.inr ⟨c, hc, ?_, by grind⟩)
    rw [back]; exact k4
def sideQ (a b : Pt) : Lin := ⟨-((b.2 : Rat) - a.2), (b.1 : Rat) - a.1, ((b.2 : Rat) - a.2) * a.1 - ((b.1 : Rat) - a.1) * a.2⟩
theorem sideQ_at (a b x : Pt) : (sideQ a b).at (q2 x) = ((crossP a b x : Int) : Rat) := by
 unfold sideQ Lin.at q2 crossP cross; push_cast; grind
theorem sideQ_nonneg {a b x : Pt} : 0 ≤ (sideQ a b).at (q2 x) ↔ 0 ≤ crossP a b x := by
 rw [sideQ_at]; exact_mod_cast Iff.rfl
def crQ (u v : P2) : Rat := u.1 * v.2 - u.2 * v.1
theorem sideQ_dir (a b : Pt) (v : P2) : (sideQ a b).dir v = crQ (vecQ a b) v := by unfold sideQ Lin.dir crQ vecQ; grind
theorem sideQ_l (a b : Pt) : (sideQ a b).at (q2 a) = 0 := by unfold sideQ Lin.at q2; grind
theorem sideQ_r (a b : Pt) : (sideQ a b).at (q2 b) = 0 := by unfold sideQ Lin.at q2; grind
theorem on_line {a b : Pt} {w : P2} (hab : a ≠ b) (h : (sideQ a b).at w = 0) : ∃ r, w = segQ a b r := by
 have h' : ((b.1 : Rat) - a.1) * (w.2 - a.2) = ((b.2 : Rat) - a.2) * (w.1 - a.1) := by unfold sideQ Lin.at at h; grind
 by_cases e : a.1 = b.1
 ·have e2 : a.2 ≠ b.2 := fun h2 => hab (Prod.ext e h2)
  have n2 : (b.2 : Rat) - a.2 ≠ 0 := by
   intro h0
   have : (b.2 : Rat) = a.2 := by grind
   exact e2 (by exact_mod_cast this.symm)
  have n1 : (b.1 : Rat) - a.1 = 0 := by rw [e]; grind
  refine ⟨(w.2 - a.2) / ((b.2 : Rat) - a.2), ?_⟩
  have hw : w.1 = a.1 := by
   rw [n1] at h'
   have : ((b.2 : Rat) - a.2) * (w.1 - a.1) = 0 := by grind
   rcases Rat.mul_eq_zero.1 this with g | g
   ·exact absurd g n2
   ·grind
  unfold segQ mvP vecQ q2
  ext
  ·simp only; rw [n1, hw]; grind
  ·simp only; grind
 ·have n1 : (b.1 : Rat) - a.1 ≠ 0 := by
   intro h0
   have : (b.1 : Rat) = a.1 := by grind
   exact e (by exact_mod_cast this.symm)
  refine ⟨(w.1 - a.1) / ((b.1 : Rat) - a.1), ?_⟩
  unfold segQ mvP vecQ q2
  ext
  ·simp only; grind
  ·simp only
   have z : ((b.1 : Rat) - a.1) * (a.2 + (w.1 - a.1) / ((b.1 : Rat) - a.1) * ((b.2 : Rat) - a.2) - w.2) = 0 := by grind
   rcases Rat.mul_eq_zero.1 z with g | g
   ·exact absurd g n1
   ·grind
end Go.Proofs.YtdfhnemhkpplbaaGreatDoor
namespace Go.Proofs.YtdfhnemhkpplbaaGreatDoor
open Go Go.V Go.RowKit
theorem Eight1_fn (p : Pt) (M : Mem) (h : isC p.1 ∧ isC p.2) : FnP Tryz.prog 122 [ptv p] M [.int .i64 (fS p)] := by
 unfold isC at h
 refine Fn.of_vc cxOK Tryz.func122 rfl rfl rfl ?_
 repeat (first | refine VIf.tt ?_ | refine VIf.ff ?_)
 refine VArith.ok (by first | omega | (simp only; omega)) (by first | omega | (simp only; omega)) ?_
 repeat (first | refine VIf.tt ?_ | refine VIf.ff ?_)
 exact VFact.mk ⟨rfl, rfl⟩ trivial
theorem Eight2_fn (p : Pt) (M : Mem) (h : isC p.1 ∧ isC p.2) : FnP Tryz.prog 123 [ptv p] M [.int .i64 (fD p)] := by
 unfold isC at h
 refine Fn.of_vc cxOK Tryz.func123 rfl rfl rfl ?_
 repeat (first | refine VIf.tt ?_ | refine VIf.ff ?_)
 refine VArith.ok (by first | omega | (simp only; omega)) (by first | omega | (simp only; omega)) ?_
 repeat (first | refine VIf.tt ?_ | refine VIf.ff ?_)
 exact VFact.mk ⟨rfl, rfl⟩ trivial
theorem b8_bd {p : List Pt} (hv : validB p = true) : (-500000 ≤ (b8 p).a ∧ (b8 p).b ≤ 500000 ∧ -500000 ≤ (b8 p).c ∧ (b8 p).d ≤ 500000) ∧ (b8 p).In := by
 have hn := (len_one hv).1
 have bd : ∀ y ∈ p, -500000 ≤ y.1 ∧ y.1 ≤ 500000 ∧ -500000 ≤ y.2 ∧ y.2 ≤ 500000 := fun y hy => by
  obtain ⟨i, hi, rfl⟩ := mem_gp hy
  exact place_bd (valid_place hv hi)
 obtain ⟨y1, m1, e1⟩ := (lo_spec fX hn).2
 obtain ⟨y2, m2, e2⟩ := (hi_spec fX hn).2
 obtain ⟨y3, m3, e3⟩ := (lo_spec fY hn).2
 obtain ⟨y4, m4, e4⟩ := (hi_spec fY hn).2
 have b1 := bd y1 m1
 have b2 := bd y2 m2
 have b3 := bd y3 m3
 have b4 := bd y4 m4
 unfold fX at e1 e2
 unfold fY at e3 e4
 have f1 : (b8 p).a = y1.1 := e1
 have f2 : (b8 p).b = y2.1 := e2
 have f3 : (b8 p).c = y3.2 := e3
 have f4 : (b8 p).d = y4.2 := e4
 exact ⟨by omega, (b8_met hn).in⟩
theorem cells_app2 (l : List Pt) (p q : Pt) : cellsP (l ++ [p, q]) = cellsP l ++ ([.int .i64 p.1, .int .i64 p.2] ++ ([.int .i64 q.1, .int .i64 q.2] ++ [])) := by simp [cellsP]
theorem eight_x (B : B8) {i : Nat} (h : i < 2) : ∃ x, ([.int .i64 B.a, .int .i64 B.b] : List Value)[i]? = some (.int .i64 x) ∧ (x = B.a ∨ x = B.b) ∧
  B.ptsP.take (2 * (i + 1)) = B.ptsP.take (2 * i) ++ [(x, [B.s - x, x - B.v].foldl max B.c), (x, [B.t - x, x - B.u].foldl min B.d)] := by
 have : i = 0 ∨ i = 1 := by omega
 rcases this with rfl | rfl
 ·exact ⟨B.a, rfl, .inl rfl, rfl⟩
 ·exact ⟨B.b, rfl, .inr rfl, rfl⟩
theorem eight_y (B : B8) {i : Nat} (h : i < 2) : ∃ x, ([.int .i64 B.c, .int .i64 B.d] : List Value)[i]? = some (.int .i64 x) ∧ (x = B.c ∨ x = B.d) ∧
  B.ptsP.take (4 + 2 * (i + 1)) = B.ptsP.take (4 + 2 * i) ++ [([B.s - x, x + B.u].foldl max B.a, x), ([B.t - x, x + B.v].foldl min B.b, x)] := by
 have : i = 0 ∨ i = 1 := by omega
 rcases this with rfl | rfl
 ·exact ⟨B.c, rfl, .inl rfl, rfl⟩
 ·exact ⟨B.d, rfl, .inr rfl, rfl⟩
set_option maxHeartbeats 1000000 in
theorem Eight_fn (v : Value) (ps : List Pt) (M : Mem) (hv : Pts M v ps) (h64 : i64P ps) : V.Fn Tryz.prog 100 [v] M fun rs M' => if validB ps = true then ∃ u, rs = [u, .int .i64 0] ∧ Pts M' u (eightP ps) else rs = [.slice none 0 0, .int .i64 1] := by
 refine Fn.of_vc cxOK Tryz.func100 rfl rfl rfl ?_
 obtain ⟨ad, c, rfl⟩ := hv.shape
 repeat (first | refine VIf.tt ?_ | refine VIf.ff ?_)
 refine VFn.mk _ (Box_fn _ ps M hv h64) ?_
 rintro rs M1 hM1 hr
 by_cases hV : validB ps = true
 rotate_left
 ·rw [if_neg hV] at hr
  subst hr
  repeat (first | refine VIf.tt ?_ | refine VIf.ff ?_)
  refine VFact.mk ?_ trivial
  show if _ then _ else _
  rw [if_neg hV]
 rw [if_pos hV] at hr
 subst hr
 have hn := len_one hV
 have hC : ∀ k, k < ps.length → isC (gp ps k).1 ∧ isC (gp ps k).2 := fun k hk => all_isC (List.all_eq_true.2 fun p hp => by
  obtain ⟨i, hi, rfl⟩ := mem_gp hp
  exact valid_place hV hi) _ (gp_mem hk)
 repeat (first | refine VIf.tt ?_ | refine VIf.ff ?_)
 refine VFn.p (ends_fn _ ps _ fS _ (hv.le hM1) hn.1 (fun i hi M' => Eight1_fn _ M' (hC i hi))) ?_
 repeat (first | refine VIf.tt ?_ | refine VIf.ff ?_)
 refine VFn.p (ends_fn _ ps _ fD _ (hv.le hM1) hn.1 (fun i hi M' => Eight2_fn _ M' (hC i hi))) ?_
 obtain ⟨bd, bi⟩ := b8_bd hV
 obtain ⟨h1, h2, h3, h4, h5, h6, h7, h8, h9, h10, h11⟩ := bi
 repeat (first | refine VIf.tt ?_ | refine VIf.ff ?_)
 refine VCode.loop cxOK Nat
  (fun i => ⟨[(4, .box 0 0), (5, .box 1 0), (7, .v (.int .i64 (b8 ps).s)), (8, .v (.int .i64 (b8 ps).t)), (9, .v (.int .i64 (b8 ps).u)), (10, .v (.int .i64 (b8 ps).v)), (11, .row 3), (39, .row 2), (40, .v (.int .i64 2)), (41, .v (.int .i64 i))],
   [(0, some (.box 24 [.v (.int .i64 (b8 ps).a), .v (.int .i64 (b8 ps).c)])), (1, some (.box 24 [.v (.int .i64 (b8 ps).b), .v (.int .i64 (b8 ps).d)])), (2, some (.row 3 1 2 [.int .i64 (b8 ps).a, .int .i64 (b8 ps).b])), (3, some (.row 24 2 ((b8 ps).ptsP.take (2 * i)).length (cellsP ((b8 ps).ptsP.take (2 * i)))))], 4, M1, 109, ⟨fun _ => none, none, fun _ => none⟩⟩)
  (fun i => i ≤ 2) (fun i => 2 - i) 0 (Nat.zero_le _) ?_ ?_
 ·refine Wk.nil 11 24 2 rfl (Wk.mk' id (by repeat' constructor) (by repeat' constructor) (injOK_id _) rfl rfl rfl)
 ·rintro i hi m
  have hi : i ≤ 2 := hi
  repeat (first | refine VIf.tt ?_ | refine VIf.ff ?_)
  refine VIf.mk (fun hlt => ?_) (fun hge => ?_)
  ·have hlt : i < 2 := by have := of_decide_eq_true hlt; omega
   obtain ⟨x, hx, hb, he⟩ := eight_x (b8 ps) hlt
   have hxb : -500000 ≤ x ∧ x ≤ 500000 := by omega
   repeat (first | refine VIf.tt ?_ | refine VIf.ff ?_)
   refine VIdxR.mk i rfl hlt ?_
   repeat (first | refine VIf.tt ?_ | refine VIf.ff ?_)
   refine VCells.mk [.int .i64 x] rfl (fun j v hj => by
    have : j = 0 := by
     match j, hj with
     | 0, _ => rfl
     | j + 1, hj => simp at hj
    subst this
    rw [← hj]; simpa using hx) ?_
   refine ⟨_, rfl, ?_⟩
   repeat (first | refine VIf.tt ?_ | refine VIf.ff ?_)
   refine VArith.ok (by first | omega | (simp only; omega)) (by first | omega | (simp only; omega)) ?_
   repeat (first | refine VIf.tt ?_ | refine VIf.ff ?_)
   refine VArith.ok (by first | omega | (simp only; omega)) (by first | omega | (simp only; omega)) ?_
   repeat (first | refine VIf.tt ?_ | refine VIf.ff ?_)
   refine VArith.ok (by first | omega | (simp only; omega)) (by first | omega | (simp only; omega)) ?_
   repeat (first | refine VIf.tt ?_ | refine VIf.ff ?_)
   refine VArith.ok (by first | omega | (simp only; omega)) (by first | omega | (simp only; omega)) ?_
   have hl : ((b8 ps).ptsP.take (2 * i)).length ≤ 8 := by simp [B8.ptsP]; omega
   repeat (first | refine VIf.tt ?_ | refine VIf.ff ?_)
   refine VFact.mk (by simp only; omega) ?_
   repeat (first | refine VIf.tt ?_ | refine VIf.ff ?_)
   refine VArith.ok (by first | omega | (simp only; omega)) (by first | omega | (simp only; omega)) ?_
   have e1 := congrArg List.length he
   rw [List.length_append] at e1
   have e2 := (congrArg cellsP he).trans (cells_app2 _ _ _)
   exact ⟨i + 1, hlt, (by first | omega | (simp only; omega)), Wk.mk' (fun k => if k = 3 then 5 else k) (by repeat' constructor) (by repeat' (first | exact e1.symm | exact e1 | exact e2.symm | exact e2 | constructor)) (injOK_b rfl) rfl rfl rfl⟩
  ·have : i = 2 := by have := of_decide_eq_false hge; omega
   subst this
   repeat (first | refine VIf.tt ?_ | refine VIf.ff ?_)
   refine VCode.loop cxOK Nat
    (fun i => ⟨[(4, .box 0 0), (5, .box 1 0), (7, .v (.int .i64 (b8 ps).s)), (8, .v (.int .i64 (b8 ps).t)), (9, .v (.int .i64 (b8 ps).u)), (10, .v (.int .i64 (b8 ps).v)), (11, .row 3), (75, .row 2), (76, .v (.int .i64 2)), (77, .v (.int .i64 i))],
     [(0, some (.box 24 [.v (.int .i64 (b8 ps).a), .v (.int .i64 (b8 ps).c)])), (1, some (.box 24 [.v (.int .i64 (b8 ps).b), .v (.int .i64 (b8 ps).d)])), (2, some (.row 3 1 2 [.int .i64 (b8 ps).c, .int .i64 (b8 ps).d])), (3, some (.row 24 2 ((b8 ps).ptsP.take (4 + 2 * i)).length (cellsP ((b8 ps).ptsP.take (4 + 2 * i)))))], 4, M1, 109, ⟨fun _ => none, none, fun _ => none⟩⟩)
    (fun i => i ≤ 2) (fun i => 2 - i) 0 (Nat.zero_le _) ?_ ?_
   ·refine Wk.mk' (fun k => if k = 2 then 4 else k) (by repeat' constructor) (by repeat' constructor) (injOK_b rfl) rfl rfl rfl
   ·rintro i hi m
    have hi : i ≤ 2 := hi
    repeat (first | refine VIf.tt ?_ | refine VIf.ff ?_)
    refine VIf.mk (fun hlt => ?_) (fun hge => ?_)
    ·have hlt : i < 2 := by have := of_decide_eq_true hlt; omega
     obtain ⟨x, hx, hb, he⟩ := eight_y (b8 ps) hlt
     have hxb : -500000 ≤ x ∧ x ≤ 500000 := by omega
     repeat (first | refine VIf.tt ?_ | refine VIf.ff ?_)
     refine VIdxR.mk i rfl hlt ?_
     repeat (first | refine VIf.tt ?_ | refine VIf.ff ?_)
     refine VCells.mk [.int .i64 x] rfl (fun j v hj => by
      have : j = 0 := by
       match j, hj with
       | 0, _ => rfl
       | j + 1, hj => simp at hj
      subst this
      rw [← hj]; simpa using hx) ?_
     refine ⟨_, rfl, ?_⟩
     repeat (first | refine VIf.tt ?_ | refine VIf.ff ?_)
     refine VArith.ok (by first | omega | (simp only; omega)) (by first | omega | (simp only; omega)) ?_
     repeat (first | refine VIf.tt ?_ | refine VIf.ff ?_)
     refine VArith.ok (by first | omega | (simp only; omega)) (by first | omega | (simp only; omega)) ?_
     repeat (first | refine VIf.tt ?_ | refine VIf.ff ?_)
     refine VArith.ok (by first | omega | (simp only; omega)) (by first | omega | (simp only; omega)) ?_
     repeat (first | refine VIf.tt ?_ | refine VIf.ff ?_)
     refine VArith.ok (by first | omega | (simp only; omega)) (by first | omega | (simp only; omega)) ?_
     have hl : ((b8 ps).ptsP.take (4 + 2 * i)).length ≤ 8 := by simp [B8.ptsP]; omega
     repeat (first | refine VIf.tt ?_ | refine VIf.ff ?_)
     refine VFact.mk (by simp only; omega) ?_
     repeat (first | refine VIf.tt ?_ | refine VIf.ff ?_)
     refine VArith.ok (by first | omega | (simp only; omega)) (by first | omega | (simp only; omega)) ?_
     have e1 := congrArg List.length he
     rw [List.length_append] at e1
     have e2 := (congrArg cellsP he).trans (cells_app2 _ _ _)
     exact ⟨i + 1, hlt, (by first | omega | (simp only; omega)), Wk.mk' (fun k => if k = 3 then 5 else k) (by repeat' constructor) (by repeat' (first | exact e1.symm | exact e1 | exact e2.symm | exact e2 | constructor)) (injOK_b rfl) rfl rfl rfl⟩
    ·have : i = 2 := by have := of_decide_eq_false hge; omega
     subst this
     have e8 : (b8 ps).ptsP.take (4 + 2 * 2) = (b8 ps).ptsP := rfl
     repeat (first | refine VIf.tt ?_ | refine VIf.ff ?_)
     refine VFz.mk fun x B M2 hM2 hx => ?_
     have hx : Pts M2 x (b8 ps).ptsP := hx
     have hpl := (eight_spec hV).2.2.2.2.1
     repeat (first | refine VIf.tt ?_ | refine VIf.ff ?_)
     refine VFn.mk _ (around_fn x _ M2 hx (by simp [B8.ptsP]) (by simp [B8.ptsP]) (by
      rw [(b8_bd hV).2.eq]
      exact all_isC (List.all_eq_true.2 hpl))) ?_
     rintro rs M3 hM3 ⟨u, rfl, hu⟩
     repeat (first | refine VIf.tt ?_ | refine VIf.ff ?_)
     refine VFact.mk ?_ trivial
     show if _ then _ else _
     rw [if_pos hV]
     exact ⟨u, rfl, hu⟩
end Go.Proofs.YtdfhnemhkpplbaaGreatDoor
namespace Go.Proofs.YtdfhnemhkpplbaaGreatDoor
open Go Go.V Go.RowKit
theorem Same_fn (v w : Value) (ps qs : List Pt) (M : Mem) (hv : Pts M v ps) (hw : Pts M w qs) : FnP Tryz.prog 11 [v, w] M [.bool (decide (ps = qs))] := by
 obtain ⟨ad, c, rfl⟩ := hv.shape
 obtain ⟨bd, d, rfl⟩ := hw.shape
 obtain ⟨_, hm, hrd⟩ := hv.cellsOf
 obtain ⟨_, hm', hrd'⟩ := hw.cellsOf
 unfold maxLen at hm hm'
 refine Fn.of_vc cxOK Tryz.func11 rfl rfl rfl ?_
 repeat (first | refine VIf.tt ?_ | refine VIf.ff ?_)
 refine VIf.mk (fun h => ?_) (fun h => ?_)
 ·have h := ne_of_bne h
  repeat (first | refine VIf.tt ?_ | refine VIf.ff ?_)
  refine VFact.mk ⟨?_, rfl⟩ trivial
  rw [decide_eq_false (fun e => h (by rw [e]))]
 have hl : ps.length = qs.length := eq_of_bne h
 repeat (first | refine VIf.tt ?_ | refine VIf.ff ?_)
 refine VCode.loop cxOK Nat (fun i => ⟨[(0, .v (.slice ad ps.length c)), (1, .v (.slice bd qs.length d)), (5, .v (.int .i64 i))], [], 0, M, 26, ⟨fun _ => none, none, fun _ => none⟩⟩)
  (fun i => i ≤ ps.length ∧ ∀ j, j < i → gp ps j = gp qs j) (fun i => ps.length - i) 0 ⟨Nat.zero_le _, fun j hj => by omega⟩ (Wk.mk' id (by repeat' constructor) (by repeat' constructor) (injOK_id _) rfl rfl rfl) ?_
 rintro i ⟨hi, hz⟩ m
 repeat (first | refine VIf.tt ?_ | refine VIf.ff ?_)
 refine VIf.mk (fun hlt => ?_) (fun hge => ?_)
 ·have hlt : i < ps.length := lt_of_dec hlt
  obtain ⟨a1, e1, r1⟩ := hrd M (Mem.le_refl _) i hlt
  obtain ⟨a2, e2, r2⟩ := hrd' M (Mem.le_refl _) i (by omega)
  repeat (first | refine VIf.tt ?_ | refine VIf.ff ?_)
  refine VDraw.go (by kernel_rfl) ?_
  repeat (first | refine VIf.tt ?_ | refine VIf.ff ?_)
  refine VIdx.mk a1 i e1 rfl hlt ?_
  repeat (first | refine VIf.tt ?_ | refine VIf.ff ?_)
  refine VReads.mk [.int .i64 (gp ps i).1, .int .i64 (gp ps i).2] rfl r1 ?_
  repeat (first | refine VIf.tt ?_ | refine VIf.ff ?_)
  refine VIdx.mk a2 i e2 rfl (by omega) ?_
  repeat (first | refine VIf.tt ?_ | refine VIf.ff ?_)
  refine VReads.mk [.int .i64 (gp qs i).1, .int .i64 (gp qs i).2] rfl r2 ?_
  repeat (first | refine VIf.tt ?_ | refine VIf.ff ?_)
  refine VIf.mk (fun hd => ?_) (fun hd => ?_)
  ·repeat (first | refine VIf.tt ?_ | refine VIf.ff ?_)
   refine VFact.mk ⟨?_, rfl⟩ trivial
   rw [decide_eq_false (fun e => by rw [e] at hd; simp at hd)]
  ·repeat (first | refine VIf.tt ?_ | refine VIf.ff ?_)
   refine VArith.ok (by first | omega | (simp only; omega)) (by first | omega | (simp only; omega)) ?_
   refine ⟨i + 1, ⟨hlt, fun j hj => ?_⟩, (by first | omega | (simp only; omega)), (Wk.mk' id (by repeat' constructor) (by repeat' constructor) (injOK_id _) rfl rfl rfl)⟩
   by_cases e : j = i
   ·subst e
    simp only [Bool.not_eq_false', Bool.and_eq_true, beq_iff_eq] at hd
    exact Prod.ext hd.1 hd.2
   ·exact hz j (by omega)
 ·have : i = ps.length := by have := ge_of_dec hge; omega
  subst this
  repeat (first | refine VIf.tt ?_ | refine VIf.ff ?_)
  refine VFact.mk ⟨?_, rfl⟩ trivial
  rw [decide_eq_true (ext_gp hl hz)]
theorem least_fn (v : Value) (l : List Pt) (M : Mem) (hv : Pts M v l) (hn : 1 ≤ l.length) : V.Fn Tryz.prog 58 [v] M fun rs M' => ∃ x, rs = [ptv x] ∧ M' = M ∧ x ∈ l ∧ ∀ y ∈ l, lexLe x y := by
 obtain ⟨ad, c, rfl⟩ := hv.shape
 obtain ⟨_, hm, hrd⟩ := hv.cellsOf
 unfold maxLen at hm
 refine Fn.of_vc cxOK Tryz.func58 rfl rfl rfl ?_
 obtain ⟨a0, e0, r0⟩ := hrd M (Mem.le_refl _) 0 (by omega)
 repeat (first | refine VIf.tt ?_ | refine VIf.ff ?_)
 refine VIdx.mk a0 0 e0 rfl (by omega) ?_
 repeat (first | refine VIf.tt ?_ | refine VIf.ff ?_)
 refine VReads.mk [.int .i64 (gp l 0).1, .int .i64 (gp l 0).2] rfl r0 ?_
 repeat (first | refine VIf.tt ?_ | refine VIf.ff ?_)
 refine VCode.loop cxOK (Nat × Pt) (fun s => ⟨[(0, .v (.slice ad l.length c)), (2, .box 0 0), (3, .box 1 0), (4, .v (.int .i64 s.1))], [(1, some (.box 24 [.v (.int .i64 s.2.1), .v (.int .i64 s.2.2)])), (0, some (.box 24 [.v (.int .i64 0), .v (.int .i64 0)]))], 2, M, 25, ⟨fun _ => none, none, fun _ => none⟩⟩)
  (fun s => s.1 ≤ l.length ∧ s.2 ∈ l ∧ ∀ j, j < s.1 → lexLe s.2 (gp l j)) (fun s => l.length - s.1) (1, gp l 0) ⟨hn, gp_mem (by omega), fun j hj => by
   have : j = 0 := by simp only at hj; omega
   subst this; exact lexLe_refl _⟩ (Wk.mk' id (by repeat' constructor) (by repeat' constructor) (injOK_id _) rfl rfl rfl) ?_
 rintro ⟨i, x⟩ ⟨hi, hx, hz⟩ m
 have hi : i ≤ l.length := hi
 have hx : x ∈ l := hx
 have hz : ∀ j, j < i → lexLe x (gp l j) := hz
 repeat (first | refine VIf.tt ?_ | refine VIf.ff ?_)
 refine VIf.mk (fun hlt => ?_) (fun hge => ?_)
 ·have hlt : i < l.length := lt_of_dec hlt
  obtain ⟨a1, e1, r1⟩ := hrd M (Mem.le_refl _) i hlt
  repeat (first | refine VIf.tt ?_ | refine VIf.ff ?_)
  refine VDraw.go (by kernel_rfl) ?_
  repeat (first | refine VIf.tt ?_ | refine VIf.ff ?_)
  refine VIdx.mk a1 i e1 rfl hlt ?_
  repeat (first | refine VIf.tt ?_ | refine VIf.ff ?_)
  refine VReads.mk [.int .i64 (gp l i).1, .int .i64 (gp l i).2] rfl r1 ?_
  repeat (first | refine VIf.tt ?_ | refine VIf.ff ?_)
  refine VFn.p (Less_fn _ _ _ _ _) ?_
  repeat (first | refine VIf.tt ?_ | refine VIf.ff ?_)
  refine VIf.mk (fun hd => ?_) (fun hd => ?_)
  ·repeat (first | refine VIf.tt ?_ | refine VIf.ff ?_)
   refine VIdx.mk a1 i e1 rfl hlt ?_
   repeat (first | refine VIf.tt ?_ | refine VIf.ff ?_)
   refine VReads.mk [.int .i64 (gp l i).1, .int .i64 (gp l i).2] rfl r1 ?_
   repeat (first | refine VIf.tt ?_ | refine VIf.ff ?_)
   refine VArith.ok (by first | omega | (simp only; omega)) (by first | omega | (simp only; omega)) ?_
   have hlt' : lexLt (gp l i) x := cmp_lex.1 (by have := lessB_iff (gp l i) x; rw [hd] at this; exact of_decide_eq_true this.symm)
   refine ⟨(i + 1, gp l i), ⟨hlt, gp_mem hlt, fun j hj => ?_⟩, (by first | omega | (simp only; omega)), (Wk.mk' id (by repeat' constructor) (by repeat' constructor) (injOK_id _) rfl rfl rfl)⟩
   have hj : j < i + 1 := hj
   by_cases e : j = i
   ·subst e; exact lexLe_refl _
   ·have := hz j (by omega)
    unfold lexLe lexLt at *
    simp only
    omega
  ·repeat (first | refine VIf.tt ?_ | refine VIf.ff ?_)
   refine VArith.ok (by first | omega | (simp only; omega)) (by first | omega | (simp only; omega)) ?_
   have hge' : lexLe x (gp l i) := lex_not fun h => by
    have := lessB_iff (gp l i) x
    rw [hd, decide_eq_true (cmp_lex.2 h)] at this; cases this
   refine ⟨(i + 1, x), ⟨hlt, hx, fun j hj => ?_⟩, (by first | omega | (simp only; omega)), (Wk.mk' id (by repeat' constructor) (by repeat' constructor) (injOK_id _) rfl rfl rfl)⟩
   have hj : j < i + 1 := hj
   by_cases e : j = i
   ·subst e; exact hge'
   ·exact hz j (by omega)
 ·have : i = l.length := by have := ge_of_dec hge; omega
  subst this
  repeat (first | refine VIf.tt ?_ | refine VIf.ff ?_)
  refine VFact.mk ⟨x, rfl, rfl, hx, fun y hy => ?_⟩ trivial
  obtain ⟨j, hj, rfl⟩ := mem_gp hy
  exact hz j hj
theorem nextP_step {l : List Pt} {fr b to y : Pt} (h : E l fr b) (hto : to ∈ l) (hy : y ∈ l) :
  (y = b → to = b ∨ (to = fr ∨ crossP fr to y < 0 ∨ crossP fr to y = 0 ∧ betwB fr y to = true)) ∧ (to = b → y ≠ b → ¬ (to = fr ∨ crossP fr to y < 0 ∨ crossP fr to y = 0 ∧ betwB fr y to = true)) := by
 obtain ⟨h1, h2, h3, h4⟩ := h
 constructor
 ·rintro rfl
  by_cases e : to = fr
  ·exact .inr (.inl e)
  rcases h4 to hto with g | ⟨g, gb⟩
  ·refine .inr (.inr (.inl ?_))
   rw [crossP_swap]; omega
  ·refine .inr (.inr (.inr ⟨?_, gb⟩))
   rw [crossP_swap, g]; rfl
 ·rintro rfl hne hc
  rcases hc with e | e | ⟨e, eb⟩
  ·exact h3 e.symm
  ·rcases h4 y hy with g | ⟨g, _⟩ <;> omega
  ·rcases h4 y hy with g | ⟨g, gb⟩
   ·omega
   ·simp only [betwB, decide_eq_true_eq] at eb gb
    exact hne (Prod.ext (by omega) (by omega))
def Nxt (l : List Pt) (fr b : Pt) : Prop := fr ∈ l ∧ b ∈ l ∧ (E l fr b ∨ b = fr ∧ ∀ y ∈ l, y = fr)
theorem next_fn (v : Value) (l : List Pt) (fr b : Pt) (M : Mem) (hv : Pts M v l) (hC : ∀ p ∈ l, isC p.1 ∧ isC p.2) (hN : Nxt l fr b) : V.Fn Tryz.prog 59 [v, ptv fr] M fun rs M' => rs = [ptv b] ∧ M' = M := by
 obtain ⟨hf, hb, hN⟩ := hN
 obtain ⟨ad, c, rfl⟩ := hv.shape
 obtain ⟨_, hm, hrd⟩ := hv.cellsOf
 unfold maxLen at hm
 refine Fn.of_vc cxOK Tryz.func59 rfl rfl rfl ?_
 repeat (first | refine VIf.tt ?_ | refine VIf.ff ?_)
 refine VCode.loop cxOK (Nat × Pt) (fun s => ⟨[(0, .v (.slice ad l.length c)), (3, .box 0 0), (4, .box 1 0), (5, .box 2 0), (6, .v (.int .i64 s.1))], [(2, some (.box 24 [.v (.int .i64 s.2.1), .v (.int .i64 s.2.2)])), (1, some (.box 24 [.v (.int .i64 0), .v (.int .i64 0)])), (0, some (.box 24 [.v (.int .i64 fr.1), .v (.int .i64 fr.2)]))], 3, M, 47, ⟨fun _ => none, none, fun _ => none⟩⟩)
  (fun s => s.1 ≤ l.length ∧ s.2 ∈ l ∧ ((∃ j, j < s.1 ∧ gp l j = b) → s.2 = b)) (fun s => l.length - s.1) (0, fr) ⟨Nat.zero_le _, hf, fun ⟨j, hj, _⟩ => by simp only at hj; omega⟩ (Wk.mk' id (by repeat' constructor) (by repeat' constructor) (injOK_id _) rfl rfl rfl) ?_
 rintro ⟨i, to⟩ ⟨hi, hto, hz⟩ m
 have hi : i ≤ l.length := hi
 have hto : to ∈ l := hto
 have hz : (∃ j, j < i ∧ gp l j = b) → to = b := hz
 repeat (first | refine VIf.tt ?_ | refine VIf.ff ?_)
 refine VIf.mk (fun hlt => ?_) (fun hge => ?_)
 ·have hlt : i < l.length := lt_of_dec hlt
  have hy := gp_mem hlt
  have c1 := hC fr hf
  have c2 := hC to hto
  have c3 := hC _ hy
  obtain ⟨a1, e1, r1⟩ := hrd M (Mem.le_refl _) i hlt
  have stay : ¬ (to = fr ∨ crossP fr to (gp l i) < 0 ∨ crossP fr to (gp l i) = 0 ∧ betwB fr (gp l i) to = true) → (∃ j, j < i + 1 ∧ gp l j = b) → to = b := by
   rintro hn ⟨j, hj, ej⟩
   by_cases e : j = i
   ·subst e
    rcases hN with hE | ⟨rfl, ha⟩
    ·rcases (nextP_step hE hto hy).1 ej with h | h
     ·exact h
     ·exact absurd h hn
    ·exact ha to hto
   ·exact hz ⟨j, by omega, ej⟩
  have take : (to = fr ∨ crossP fr to (gp l i) < 0 ∨ crossP fr to (gp l i) = 0 ∧ betwB fr (gp l i) to = true) → (∃ j, j < i + 1 ∧ gp l j = b) → gp l i = b := by
   rintro hn ⟨j, hj, ej⟩
   by_cases e : j = i
   ·subst e; exact ej
   ·have := hz ⟨j, by omega, ej⟩
    rcases hN with hE | ⟨rfl, ha⟩
    ·exact Classical.byContradiction fun hne => (nextP_step hE hto hy).2 this hne hn
    ·exact ha _ hy
  repeat (first | refine VIf.tt ?_ | refine VIf.ff ?_)
  refine VDraw.go (by kernel_rfl) ?_
  repeat (first | refine VIf.tt ?_ | refine VIf.ff ?_)
  refine VIdx.mk a1 i e1 rfl hlt ?_
  repeat (first | refine VIf.tt ?_ | refine VIf.ff ?_)
  refine VReads.mk [.int .i64 (gp l i).1, .int .i64 (gp l i).2] rfl r1 ?_
  repeat (first | refine VIf.tt ?_ | refine VIf.ff ?_)
  refine VFn.p (Cross_fn _ _ _ _ _ _ _ c1.1 c1.2 c2.1 c2.2 c3.1 c3.2) ?_
  repeat (first | refine VIf.tt ?_ | refine VIf.ff ?_)
  refine VDraw.go (by kernel_rfl) ?_
  repeat (first | refine VIf.tt ?_ | refine VIf.ff ?_)
  refine VIf.mk (fun ha => ?_) (fun ha => ?_)
  ·have ht : to = fr := by simp only [Bool.and_eq_true, beq_iff_eq] at ha; exact Prod.ext ha.1 ha.2
   repeat (first | refine VIf.tt ?_ | refine VIf.ff ?_)
   refine VIdx.mk a1 i e1 rfl hlt ?_
   repeat (first | refine VIf.tt ?_ | refine VIf.ff ?_)
   refine VReads.mk [.int .i64 (gp l i).1, .int .i64 (gp l i).2] rfl r1 ?_
   repeat (first | refine VIf.tt ?_ | refine VIf.ff ?_)
   refine VArith.ok (by first | omega | (simp only; omega)) (by first | omega | (simp only; omega)) ?_
   exact ⟨(i + 1, gp l i), ⟨hlt, hy, take (.inl ht)⟩, (by first | omega | (simp only; omega)), (Wk.mk' id (by repeat' constructor) (by repeat' constructor) (injOK_id _) rfl rfl rfl)⟩
  have hn1 : to ≠ fr := fun e => by subst e; simp at ha
  repeat (first | refine VIf.tt ?_ | refine VIf.ff ?_)
  refine VIf.mk (fun hb => ?_) (fun hb => ?_)
  ·have hb : crossP fr to (gp l i) < 0 := of_decide_eq_true hb
   repeat (first | refine VIf.tt ?_ | refine VIf.ff ?_)
   refine VIdx.mk a1 i e1 rfl hlt ?_
   repeat (first | refine VIf.tt ?_ | refine VIf.ff ?_)
   refine VReads.mk [.int .i64 (gp l i).1, .int .i64 (gp l i).2] rfl r1 ?_
   repeat (first | refine VIf.tt ?_ | refine VIf.ff ?_)
   refine VArith.ok (by first | omega | (simp only; omega)) (by first | omega | (simp only; omega)) ?_
   exact ⟨(i + 1, gp l i), ⟨hlt, hy, take (.inr (.inl hb))⟩, (by first | omega | (simp only; omega)), (Wk.mk' id (by repeat' constructor) (by repeat' constructor) (injOK_id _) rfl rfl rfl)⟩
  have hb : ¬ crossP fr to (gp l i) < 0 := of_decide_eq_false hb
  repeat (first | refine VIf.tt ?_ | refine VIf.ff ?_)
  refine VIf.mk (fun hc => ?_) (fun hc => ?_)
  ·have hc : crossP fr to (gp l i) = 0 := eq_of_beq hc
   repeat (first | refine VIf.tt ?_ | refine VIf.ff ?_)
   refine VIdx.mk a1 i e1 rfl hlt ?_
   repeat (first | refine VIf.tt ?_ | refine VIf.ff ?_)
   refine VReads.mk [.int .i64 (gp l i).1, .int .i64 (gp l i).2] rfl r1 ?_
   repeat (first | refine VIf.tt ?_ | refine VIf.ff ?_)
   refine VFn.p (between_fn _ _ _ _ _ _ _) ?_
   repeat (first | refine VIf.tt ?_ | refine VIf.ff ?_)
   refine VIf.mk (fun hd => ?_) (fun hd => ?_)
   ·repeat (first | refine VIf.tt ?_ | refine VIf.ff ?_)
    refine VIdx.mk a1 i e1 rfl hlt ?_
    repeat (first | refine VIf.tt ?_ | refine VIf.ff ?_)
    refine VReads.mk [.int .i64 (gp l i).1, .int .i64 (gp l i).2] rfl r1 ?_
    repeat (first | refine VIf.tt ?_ | refine VIf.ff ?_)
    refine VArith.ok (by first | omega | (simp only; omega)) (by first | omega | (simp only; omega)) ?_
    exact ⟨(i + 1, gp l i), ⟨hlt, hy, take (.inr (.inr ⟨hc, hd⟩))⟩, (by first | omega | (simp only; omega)), (Wk.mk' id (by repeat' constructor) (by repeat' constructor) (injOK_id _) rfl rfl rfl)⟩
   ·have hn : ¬ (to = fr ∨ crossP fr to (gp l i) < 0 ∨ crossP fr to (gp l i) = 0 ∧ betwB fr (gp l i) to = true) := by
     rintro (h | h | ⟨_, h⟩)
     ·exact hn1 h
     ·exact hb h
     ·have hd : betwB fr (gp l i) to = false := hd
      rw [h] at hd; cases hd
    repeat (first | refine VIf.tt ?_ | refine VIf.ff ?_)
    refine VArith.ok (by first | omega | (simp only; omega)) (by first | omega | (simp only; omega)) ?_
    exact ⟨(i + 1, to), ⟨hlt, hto, stay hn⟩, (by first | omega | (simp only; omega)), (Wk.mk' id (by repeat' constructor) (by repeat' constructor) (injOK_id _) rfl rfl rfl)⟩
  ·have hc : ¬ crossP fr to (gp l i) = 0 := fun e => by
    have hc' : (crossP fr to (gp l i) == 0) = false := hc
    rw [e] at hc'; simp at hc'
   have hn : ¬ (to = fr ∨ crossP fr to (gp l i) < 0 ∨ crossP fr to (gp l i) = 0 ∧ betwB fr (gp l i) to = true) := by
    rintro (h | h | ⟨h, _⟩)
    ·exact hn1 h
    ·exact hb h
    ·exact hc h
   repeat (first | refine VIf.tt ?_ | refine VIf.ff ?_)
   refine VArith.ok (by first | omega | (simp only; omega)) (by first | omega | (simp only; omega)) ?_
   exact ⟨(i + 1, to), ⟨hlt, hto, stay hn⟩, (by first | omega | (simp only; omega)), (Wk.mk' id (by repeat' constructor) (by repeat' constructor) (injOK_id _) rfl rfl rfl)⟩
 ·have : i = l.length := by have := ge_of_dec hge; omega
  subst this
  obtain ⟨j, hj, ej⟩ := mem_gp hb
  have := hz ⟨j, hj, ej⟩
  repeat (first | refine VIf.tt ?_ | refine VIf.ff ?_)
  refine VFact.mk ⟨?_, rfl⟩ trivial
  rw [← this]; rfl
end Go.Proofs.YtdfhnemhkpplbaaGreatDoor
namespace Go.Proofs.YtdfhnemhkpplbaaGreatDoor
open Go Go.V Go.RowKit
theorem hl_nxt {l p : List Pt} (h : Hl l p) {k : Nat} (hk : k < p.length) : Nxt l (gp p k) (gp p ((k + 1) % p.length)) := by
 have hm : ∀ {i : Nat}, i < p.length → gp p i ∈ l := fun hi => h.mem hi
 refine ⟨hm hk, hm (Nat.mod_lt _ (by omega)), ?_⟩
 cases h with
 | one a hp hS ha =>
  subst hp
  have : k = 0 := by simp at hk; omega
  subst this
  exact .inr ⟨by simp [gp], fun y hy => hS y hy⟩
 | many h => exact .inl (h.side k hk)
theorem hl_inj {l p : List Pt} (h : Hl l p) : ∀ i j, i < j → j < p.length → gp p i ≠ gp p j := by
 cases h with
 | one a hp hS ha => subst hp; intro i j hij hj; simp at hj; omega
 | many h => exact h.inj
theorem hl_first {l p : List Pt} (h : Hl l p) : ∀ y ∈ l, lexLe (gp p 0) y := by
 cases h with
 | one a hp hS ha => subst hp; intro y hy; rw [hS y hy]; exact lexLe_refl _
 | many h => exact h.fst
theorem take_gp (p : List Pt) {k : Nat} (h : k < p.length) : p.take (k + 1) = p.take k ++ [gp p k] := by
 rw [List.take_add_one]; simp [gp, h]
theorem cells_app1 (l : List Pt) (p : Pt) : cellsP (l ++ [p]) = cellsP l ++ ([.int .i64 p.1, .int .i64 p.2] ++ []) := by simp [cellsP]
theorem Around_fn (v : Value) (l p : List Pt) (M : Mem) (hv : Pts M v l) (hh : Hl l p) (hC : ∀ p ∈ l, isC p.1 ∧ isC p.2) (hl : l.length ≤ 4000) : V.Fn Tryz.prog 29 [v] M fun rs M' => ∃ u, rs = [u] ∧ Pts M' u p := by
 have hpos := hh.pos
 have hpl := hl_len hh
 have hne : 1 ≤ l.length := by omega
 obtain ⟨ad, c, rfl⟩ := hv.shape
 refine Fn.of_vc cxOK Tryz.func29 rfl rfl rfl ?_
 repeat (first | refine VIf.tt ?_ | refine VIf.ff ?_)
 refine VIf.mk (fun h => ?_) (fun h => ?_)
 ·have := eq_of_beq h; omega
 repeat (first | refine VIf.tt ?_ | refine VIf.ff ?_)
 refine VFn.mk _ (least_fn _ l M hv hne) ?_
 rintro rs M1 hM1 ⟨x, rfl, rfl, hx, hle⟩
 have e0 : gp p 0 = x := lexLe_antisymm (hl_first hh x hx) (hle _ (hh.mem hpos))
 subst e0
 repeat (first | refine VIf.tt ?_ | refine VIf.ff ?_)
 refine VFn.mk _ (next_fn _ l _ (gp p (1 % p.length)) M1 hv hC (hl_nxt hh hpos)) ?_
 rintro rs M2 hM2 ⟨rfl, rfl⟩
 repeat (first | refine VIf.tt ?_ | refine VIf.ff ?_)
 refine VCode.loop cxOK Nat (fun k => ⟨[(0, .v (.slice ad l.length c)), (3, .box 0 0), (4, .row 1), (5, .box 2 0)],
   [(2, some (.box 24 [.v (.int .i64 (gp p (k % p.length)).1), .v (.int .i64 (gp p (k % p.length)).2)])), (1, some (.row 24 2 (p.take k).length (cellsP (p.take k)))), (0, some (.box 24 [.v (.int .i64 (gp p 0).1), .v (.int .i64 (gp p 0).2)]))], 3, M2, 28, ⟨fun _ => none, none, fun _ => none⟩⟩)
  (fun k => 1 ≤ k ∧ k ≤ p.length) (fun k => p.length - k) 1 ⟨Nat.le_refl _, hpos⟩ ?_ ?_
 ·have h1 : p.take 1 = [gp p 0] := by have := take_gp p hpos; simpa using this
  have e1 := congrArg List.length h1
  have e2 := congrArg cellsP h1
  exact Wk.mk' id (by repeat' constructor) (by repeat' (first | exact e1.symm | exact e1 | exact e2.symm | exact e2 | constructor)) (injOK_b rfl) rfl rfl rfl
 rintro k ⟨hk1, hk⟩ m
 repeat (first | refine VIf.tt ?_ | refine VIf.ff ?_)
 refine VIf.mk (fun hd => ?_) (fun hd => ?_)
 ·have hlt : k < p.length := Nat.lt_of_le_of_ne hk fun e => by
   rw [e, Nat.mod_self] at hd; simp at hd
  repeat (first | refine VIf.tt ?_ | refine VIf.ff ?_)
  refine VFact.mk (by simp only; rw [List.length_take]; omega) ?_
  repeat (first | refine VIf.tt ?_ | refine VIf.ff ?_)
  refine VFn.mk _ (next_fn _ l _ (gp p ((k + 1) % p.length)) M2 hv hC (by rw [Nat.mod_eq_of_lt hlt]; exact hl_nxt hh hlt)) ?_
  rintro rs M3 hM3 ⟨rfl, rfl⟩
  have he : p.take (k + 1) = p.take k ++ [gp p (k % p.length)] := by rw [Nat.mod_eq_of_lt hlt]; exact take_gp p hlt
  have e1 := congrArg List.length he
  rw [List.length_append] at e1
  have e2 := (congrArg cellsP he).trans (cells_app1 _ _)
  exact ⟨k + 1, ⟨by omega, hlt⟩, (by first | omega | (simp only; omega)), Wk.mk' (fun i => if i = 2 then 5 else if i = 1 then 4 else i) (by repeat' constructor) (by repeat' (first | exact e1.symm | exact e1 | exact e2.symm | exact e2 | constructor)) (injOK_b rfl) rfl rfl rfl⟩
 ·have hk' : k = p.length := by
   refine Classical.byContradiction fun hne => ?_
   have hlt : k < p.length := by omega
   rw [Nat.mod_eq_of_lt hlt] at hd
   have : gp p 0 = gp p k := by
    simp only [Bool.not_eq_false', Bool.and_eq_true, beq_iff_eq] at hd
    exact (Prod.ext hd.1 hd.2).symm
   exact hl_inj hh 0 k (by omega) hlt this
  subst hk'
  repeat (first | refine VIf.tt ?_ | refine VIf.ff ?_)
  refine VFz.mk fun x B M3 hM3 hx => ?_
  repeat (first | refine VIf.tt ?_ | refine VIf.ff ?_)
  refine VFact.mk ⟨x, rfl, ?_⟩ trivial
  rw [List.take_length] at hx
  exact hx
end Go.Proofs.YtdfhnemhkpplbaaGreatDoor
namespace Go.Proofs.YtdfhnemhkpplbaaGreatDoor
open Go Go.V Go.RowKit
theorem allC_valid {ps : List Pt} (hV : validB ps = true) : allC ps := fun k hk => all_isC (List.all_eq_true.2 fun p hp => by
 obtain ⟨i, hi, rfl⟩ := mem_gp hp
 exact valid_place hV hi) _ (gp_mem hk)
def linP (a b : Int) (p : Pt) : Int := a * p.1 + b * p.2
theorem Bounds_fn (v : Value) (ps : List Pt) (a b : Int) (M : Mem) (hv : Pts M v ps) (hn : 1 ≤ ps.length) (hC : allC ps) (ha : -1 ≤ a ∧ a ≤ 1) (hb : -1 ≤ b ∧ b ≤ 1) : FnP Tryz.prog 106 [v, .int .i64 a, .int .i64 b] M [.int .i64 (loB (linP a b) ps), .int .i64 (hiB (linP a b) ps)] := by
 obtain ⟨ad, c, rfl⟩ := hv.shape
 obtain ⟨_, hm, hrd⟩ := hv.cellsOf
 unfold maxLen at hm
 have bd : ∀ i, i < ps.length → (-500000 ≤ a * (gp ps i).1 ∧ a * (gp ps i).1 ≤ 500000) ∧ (-500000 ≤ b * (gp ps i).2 ∧ b * (gp ps i).2 ≤ 500000) := fun i hi => by
  have := hC i hi
  unfold isC at this
  have m1 := mul_bdg (a := a) (b := (gp ps i).1) (A := 1) (B := 500000) ha.1 ha.2 this.1.1 this.1.2
  have m2 := mul_bdg (a := b) (b := (gp ps i).2) (A := 1) (B := 500000) hb.1 hb.2 this.2.1 this.2.2
  omega
 refine Fn.of_vc cxOK Tryz.func106 rfl rfl rfl ?_
 obtain ⟨ad', rfl, r0⟩ := hrd M (Mem.le_refl _) 0 (by omega)
 have b0 := bd 0 (by omega)
 repeat (first | refine VIf.tt ?_ | refine VIf.ff ?_)
 refine VDraw.go (by kernel_rfl) ?_
 repeat (first | refine VIf.tt ?_ | refine VIf.ff ?_)
 refine VIdx.mk ad' 0 rfl rfl (by omega) ?_
 repeat (first | refine VIf.tt ?_ | refine VIf.ff ?_)
 refine VRead.mk (.int .i64 (gp ps 0).1) (r0 0 _ rfl) ?_
 repeat (first | refine VIf.tt ?_ | refine VIf.ff ?_)
 refine VArith.ok (by first | omega | (simp only; omega)) (by first | omega | (simp only; omega)) ?_
 repeat (first | refine VIf.tt ?_ | refine VIf.ff ?_)
 refine VIdx.mk ad' 0 rfl rfl (by omega) ?_
 repeat (first | refine VIf.tt ?_ | refine VIf.ff ?_)
 refine VRead.mk (.int .i64 (gp ps 0).2) (r0 1 _ rfl) ?_
 repeat (first | refine VIf.tt ?_ | refine VIf.ff ?_)
 refine VArith.ok (by first | omega | (simp only; omega)) (by first | omega | (simp only; omega)) ?_
 repeat (first | refine VIf.tt ?_ | refine VIf.ff ?_)
 refine VArith.ok (by first | omega | (simp only; omega)) (by first | omega | (simp only; omega)) ?_
 repeat (first | refine VIf.tt ?_ | refine VIf.ff ?_)
 refine VCode.loop cxOK (Nat × Int × Int) (fun s => ⟨[(0, .v (.slice (some ad') ps.length c)), (1, .v (.int .i64 a)), (2, .v (.int .i64 b)), (8, .v (.int .i64 s.2.1)), (9, .v (.int .i64 s.2.2)), (10, .v (.int .i64 s.1))], [], 0, M, 67, ⟨fun _ => none, none, fun _ => none⟩⟩)
  (fun s => s.1 ≤ ps.length ∧ s.2.1 = (ps.take s.1).foldl (fun x p => min x (linP a b p)) (linP a b (gp ps 0)) ∧ s.2.2 = (ps.take s.1).foldl (fun x p => max x (linP a b p)) (linP a b (gp ps 0))) (fun s => ps.length - s.1) (1, linP a b (gp ps 0), linP a b (gp ps 0)) ⟨hn, ?_, ?_⟩ (Wk.mk' id (by repeat' constructor) (by repeat' constructor) (injOK_id _) rfl rfl rfl) ?_
 ·have h1 : ps.take 1 = [gp ps 0] := by have := take_gp ps hn; simpa using this
  simp only [h1, List.foldl_cons, List.foldl_nil]; omega
 ·have h1 : ps.take 1 = [gp ps 0] := by have := take_gp ps hn; simpa using this
  simp only [h1, List.foldl_cons, List.foldl_nil]; omega
 rintro ⟨i, lo, hi⟩ ⟨hi', e1, e2⟩ m
 have hi' : i ≤ ps.length := hi'
 have e1 : lo = (ps.take i).foldl (fun x p => min x (linP a b p)) (linP a b (gp ps 0)) := e1
 have e2 : hi = (ps.take i).foldl (fun x p => max x (linP a b p)) (linP a b (gp ps 0)) := e2
 repeat (first | refine VIf.tt ?_ | refine VIf.ff ?_)
 refine VIf.mk (fun hlt => ?_) (fun hge => ?_)
 ·have hlt : i < ps.length := lt_of_dec hlt
  obtain ⟨ad2, ead, r1⟩ := hrd M (Mem.le_refl _) i hlt
  have bi := bd i hlt
  repeat (first | refine VIf.tt ?_ | refine VIf.ff ?_)
  refine VDraw.go (by kernel_rfl) ?_
  repeat (first | refine VIf.tt ?_ | refine VIf.ff ?_)
  refine VIdx.mk ad2 i ead rfl hlt ?_
  repeat (first | refine VIf.tt ?_ | refine VIf.ff ?_)
  refine VRead.mk (.int .i64 (gp ps i).1) (r1 0 _ rfl) ?_
  repeat (first | refine VIf.tt ?_ | refine VIf.ff ?_)
  refine VArith.ok (by first | omega | (simp only; omega)) (by first | omega | (simp only; omega)) ?_
  repeat (first | refine VIf.tt ?_ | refine VIf.ff ?_)
  refine VIdx.mk ad2 i ead rfl hlt ?_
  repeat (first | refine VIf.tt ?_ | refine VIf.ff ?_)
  refine VRead.mk (.int .i64 (gp ps i).2) (r1 1 _ rfl) ?_
  repeat (first | refine VIf.tt ?_ | refine VIf.ff ?_)
  refine VArith.ok (by first | omega | (simp only; omega)) (by first | omega | (simp only; omega)) ?_
  repeat (first | refine VIf.tt ?_ | refine VIf.ff ?_)
  refine VArith.ok (by first | omega | (simp only; omega)) (by first | omega | (simp only; omega)) ?_
  repeat (first | refine VIf.tt ?_ | refine VIf.ff ?_)
  refine VDraw.go (by kernel_rfl) ?_
  repeat (first | refine VIf.tt ?_ | refine VIf.ff ?_)
  refine VIdx.mk ad2 i ead rfl hlt ?_
  repeat (first | refine VIf.tt ?_ | refine VIf.ff ?_)
  refine VRead.mk (.int .i64 (gp ps i).1) (r1 0 _ rfl) ?_
  repeat (first | refine VIf.tt ?_ | refine VIf.ff ?_)
  refine VArith.ok (by first | omega | (simp only; omega)) (by first | omega | (simp only; omega)) ?_
  repeat (first | refine VIf.tt ?_ | refine VIf.ff ?_)
  refine VIdx.mk ad2 i ead rfl hlt ?_
  repeat (first | refine VIf.tt ?_ | refine VIf.ff ?_)
  refine VRead.mk (.int .i64 (gp ps i).2) (r1 1 _ rfl) ?_
  repeat (first | refine VIf.tt ?_ | refine VIf.ff ?_)
  refine VArith.ok (by first | omega | (simp only; omega)) (by first | omega | (simp only; omega)) ?_
  repeat (first | refine VIf.tt ?_ | refine VIf.ff ?_)
  refine VArith.ok (by first | omega | (simp only; omega)) (by first | omega | (simp only; omega)) ?_
  repeat (first | refine VIf.tt ?_ | refine VIf.ff ?_)
  refine VArith.ok (by first | omega | (simp only; omega)) (by first | omega | (simp only; omega)) ?_
  refine ⟨(i + 1, min lo (linP a b (gp ps i)), max hi (linP a b (gp ps i))), ⟨hlt, ?_, ?_⟩, (by first | omega | (simp only; omega)), (Wk.mk' id (by repeat' constructor) (by repeat' constructor) (injOK_id _) rfl rfl rfl)⟩
  ·rw [take_step _ _ ps (0, 0) hlt, ← e1]; rfl
  ·rw [take_step _ _ ps (0, 0) hlt, ← e2]; rfl
 ·have : i = ps.length := by have := ge_of_dec hge; omega
  subst this
  rw [List.take_length] at e1 e2
  repeat (first | refine VIf.tt ?_ | refine VIf.ff ?_)
  refine VFact.mk ⟨?_, rfl⟩ trivial
  rw [e1, e2]; rfl
end Go.Proofs.YtdfhnemhkpplbaaGreatDoor
namespace Go.Proofs.YtdfhnemhkpplbaaGreatDoor
open Go Go.V Go.RowKit
theorem lin10 : linP 1 0 = fX := funext fun p => by unfold linP fX; omega
theorem lin01 : linP 0 1 = fY := funext fun p => by unfold linP fY; omega
theorem lin11 : linP 1 1 = fS := funext fun p => by unfold linP fS; omega
theorem lin1m : linP 1 (-1) = fD := funext fun p => by unfold linP fD; omega
end Go.Proofs.YtdfhnemhkpplbaaGreatDoor
namespace Go.Proofs.YtdfhnemhkpplbaaGreatDoor
open Go Go.V Go.RowKit
theorem Hull_is {v : Value} {l p : List Pt} {e : Int} {M : Mem} (hv : Pts M v l) (h64 : i64P l) (hr : hullB l = (p, e)) : V.Fn Tryz.prog 26 [v] M fun rs M' => ∃ u, rs = [u, .int .i64 e] ∧ Pts M' u p := by
 have := Hull_fn v l M hv h64
 rw [hr] at this
 exact this
theorem Eight_is {v : Value} {ps q : List Pt} {M : Mem} (hv : Pts M v ps) (h64 : i64P ps) (hV : validB ps = true) (hr : eightP ps = q) : V.Fn Tryz.prog 100 [v] M fun rs M' => ∃ u, rs = [u, .int .i64 0] ∧ Pts M' u q := by
 have := Eight_fn v ps M hv h64
 simp only [hV, if_true] at this
 rw [hr] at this
 exact this
def hasE (ps : List Pt) (x : Pt) : Bool × Int := if (validB ps && placeB x) = true then (hasB ps x, 0) else (false, 1)
theorem hasB_is {v : Value} {ps : List Pt} {x : Pt} {b : Bool} {e : Int} {M : Mem} (hv : Pts M v ps) (h64 : i64P ps) (hx : i64r x.1 ∧ i64r x.2) (hr : hasE ps x = (b, e)) : V.Fn Tryz.prog 18 [v, ptv x] M fun rs _ => rs = [.bool b, .int .i64 e] := by
 have := Has_fn v ps x.1 x.2 M hv h64 hx.1 hx.2
 unfold hasE at hr
 by_cases h : (validB ps && placeB x) = true
 ·rw [if_pos h] at hr
  simp only [h, if_true] at this
  cases hr; exact this
 ·rw [if_neg h] at hr
  simp only [h, Bool.false_eq_true, if_false] at this
  cases hr; exact this
def sq : List Pt := [(0, 0), (4, 0), (4, 4), (0, 4)]
def two : List Pt := [(0, 0), (5, 1)]
end Go.Proofs.YtdfhnemhkpplbaaGreatDoor
namespace Go.Proofs.YtdfhnemhkpplbaaGreatDoor
open Go Go.V Go.RowKit
end Go.Proofs.YtdfhnemhkpplbaaGreatDoor
namespace Go.Proofs.YtdfhnemhkpplbaaGreatDoor
open Go Go.V Go.RowKit
theorem ValidR_is {v : Value} {ps : List Pt} {b : Bool} {M : Mem} (hv : Pts M v ps) (h64 : i64P ps) (hr : validB ps = b) : FnP Tryz.prog 55 [v] M [.bool b] := by
 have := ValidR_fn v ps M hv h64
 rw [validR_eq, hr] at this
 exact this
end Go.Proofs.YtdfhnemhkpplbaaGreatDoor
namespace Go.Proofs.YtdfhnemhkpplbaaGreatDoor.hullMatchesReference
open Go Go.V Go.RowKit
end Go.Proofs.YtdfhnemhkpplbaaGreatDoor.hullMatchesReference
namespace Go.Proofs.YtdfhnemhkpplbaaGreatDoor
open Go Go.V Go.RowKit
theorem place_C {x : Pt} (h : placeB x = true) : isC x.1 ∧ isC x.2 := all_isC (l := [x]) (by simp [h]) x (by simp)
theorem place_64 {x : Pt} (h : placeB x = true) : i64r x.1 ∧ i64r x.2 := by
 have := place_C h
 unfold isC at this
 unfold i64r
 omega
theorem hasE_is {p : List Pt} {x : Pt} (hV : validB p = true) (hP : placeB x = true) {b : Bool} (h : hasB p x = b) : hasE p x = (b, 0) := by
 unfold hasE
 rw [hV, hP, h]; rfl
theorem Inside_is {v : Value} {ps : List Pt} {x : Pt} {b : Bool} {M : Mem} (hv : Pts M v ps) (hV : validB ps = true) (hP : placeB x = true) (hr : hasB ps x = b) : FnP Tryz.prog 46 [v, ptv x] M [.bool b] := by
 have := Inside_fn v ps x.1 x.2 M hv (allC_valid hV) (place_C hP).1 (place_C hP).2
 rw [show ((x.1, x.2) : Pt) = x from rfl, hr] at this
 exact this
theorem Place_is {x : Pt} {b : Bool} {M : Mem} (hr : placeB x = b) : FnP Tryz.prog 16 [ptv x] M [.bool b] := by
 have := Place_fn x.1 x.2 M
 rw [show (isCb x.1 && isCb x.2) = placeB x from rfl, hr] at this
 exact this
end Go.Proofs.YtdfhnemhkpplbaaGreatDoor
namespace Go.Proofs.YtdfhnemhkpplbaaGreatDoor
open Go
theorem pos_of_mulQ {t y : Rat} (ht : 0 < t) (h : 0 ≤ y * t) : 0 ≤ y := by
 by_cases hy : 0 ≤ y
 ·exact hy
 ·have := Rat.mul_pos (show 0 < -y by grind) ht
  grind
theorem castQ_pos {n : Int} : 0 < (n : Rat) ↔ 0 < n := by exact_mod_cast Iff.rfl
theorem castQ_nonneg {n : Int} : 0 ≤ (n : Rat) ↔ 0 ≤ n := by exact_mod_cast Iff.rfl
theorem castQ_zero {n : Int} : (n : Rat) = 0 ↔ n = 0 := by exact_mod_cast Iff.rfl
theorem corner_ne {p : List Pt} (h : validB p = true) {i k : Nat} (hi : i < p.length) (hk : k < p.length) (hne : k ≠ i) : gp p k ≠ gp p i := by
 have inj := hl_inj (hl_of_valid h)
 rcases Nat.lt_or_gt_of_ne hne with g | g
 ·exact inj k i g hi
 ·exact fun e => inj i k g hk e.symm
theorem strict_side {p : List Pt} (h : validB p = true) (h3 : 3 ≤ p.length) {i k : Nat} (hi : i < p.length) (hk : k < p.length) (h1 : k ≠ i) (h2 : k ≠ (i + 1) % p.length) : 0 < crossP (gp p i) (gp p ((i + 1) % p.length)) (gp p k) := by
 rcases valid_side h (by omega) hi hk with e | e | e
 ·exact absurd e (corner_ne h hi hk h1)
 ·exact absurd e (corner_ne h (Nat.mod_lt _ (by omega)) hk h2)
 ·exact e
def nx (p : List Pt) (i : Nat) : Pt := gp p ((i + 1) % p.length)
def conP (p : List Pt) : List Lin := (List.range p.length).map fun i => sideQ (gp p i) (nx p i)
theorem conP_mem {p : List Pt} {i : Nat} (hi : i < p.length) : sideQ (gp p i) (nx p i) ∈ conP p := List.mem_map.2 ⟨i, List.mem_range.2 hi, rfl⟩
theorem conP_of {p : List Pt} {c : Lin} (h : c ∈ conP p) : ∃ i, i < p.length ∧ c = sideQ (gp p i) (nx p i) := by
 obtain ⟨i, hi, rfl⟩ := List.mem_map.1 h
 exact ⟨i, List.mem_range.1 hi, rfl⟩
theorem side_seg {p : List Pt} (h : validB p = true) (h3 : 3 ≤ p.length) {i : Nat} (hi : i < p.length) {w : P2} (hw : ∀ c ∈ conP p, 0 ≤ c.at w) (h0 : (sideQ (gp p i) (nx p i)).at w = 0) :
  ∃ r, 0 ≤ r ∧ r ≤ 1 ∧ w = segQ (gp p i) (nx p i) r := by
 have hn : (i + 1) % p.length < p.length := Nat.mod_lt _ (by omega)
 have hne : (i + 1) % p.length ≠ i := by
  rcases Nat.lt_or_ge (i + 1) p.length with g | g
  ·rw [Nat.mod_eq_of_lt g]; omega
  ·rw [show i + 1 = p.length by omega, Nat.mod_self]; omega
 obtain ⟨r, rfl⟩ := on_line (fun e => corner_ne h hi hn hne e.symm) h0
 refine ⟨r, ?_, ?_, rfl⟩
 ·obtain ⟨j, hj, ej⟩ : ∃ j, j < p.length ∧ (j + 1) % p.length = i := by
   rcases Nat.eq_zero_or_pos i with rfl | g
   ·exact ⟨p.length - 1, by omega, by rw [show p.length - 1 + 1 = p.length by omega, Nat.mod_self]⟩
   ·exact ⟨i - 1, by omega, by rw [show i - 1 + 1 = i by omega, Nat.mod_eq_of_lt hi]⟩
  have hc := hw _ (conP_mem hj)
  have hs := strict_side h h3 hj hn (by
   intro e
   rcases Nat.lt_or_ge (i + 1) p.length with g | g
   ·rw [Nat.mod_eq_of_lt g] at e
    rw [← e] at ej
    rcases Nat.lt_or_ge (i + 1 + 1) p.length with g2 | g2
    ·rw [Nat.mod_eq_of_lt g2] at ej; omega
    ·rw [show i + 1 + 1 = p.length by omega, Nat.mod_self] at ej; omega
   ·rw [show i + 1 = p.length by omega, Nat.mod_self] at e
    rw [← e, Nat.mod_eq_of_lt (by omega)] at ej
    omega) (by rw [ej]; exact hne)
  unfold nx at hc
  rw [ej] at hc hs
  rw [segQ_at, sideQ_r, sideQ_at] at hc
  refine pos_of_mulQ (castQ_pos.2 hs) ?_
  grind
 ·have hc := hw _ (conP_mem hn)
  have hn2 : ((i + 1) % p.length + 1) % p.length ≠ i := by
   rcases Nat.lt_or_ge (i + 1) p.length with g | g
   ·rw [Nat.mod_eq_of_lt g]
    rcases Nat.lt_or_ge (i + 1 + 1) p.length with g2 | g2
    ·rw [Nat.mod_eq_of_lt g2]; omega
    ·rw [show i + 1 + 1 = p.length by omega, Nat.mod_self]; omega
   ·rw [show i + 1 = p.length by omega, Nat.mod_self, Nat.mod_eq_of_lt (by omega)]; omega
  have hs := strict_side h h3 hn hi hne.symm hn2.symm
  rw [segQ_at] at hc
  have e0 : (sideQ (gp p ((i + 1) % p.length)) (nx p ((i + 1) % p.length))).at (q2 (gp p ((i + 1) % p.length))) = 0 := sideQ_l _ _
  rw [e0, sideQ_at] at hc
  have := pos_of_mulQ (y := 1 - r) (castQ_pos.2 hs) (by unfold nx at hc; grind)
  grind
theorem par_zero {u u' v : P2} (hv : ¬ (v.1 = 0 ∧ v.2 = 0)) (h : crQ u v = 0) (h' : crQ u' v = 0) : crQ u u' = 0 := by
 unfold crQ at *
 have e1 : v.1 * (u.1 * u'.2 - u.2 * u'.1) = 0 := by grind
 have e2 : v.2 * (u.1 * u'.2 - u.2 * u'.1) = 0 := by grind
 rcases Rat.mul_eq_zero.1 e1 with g | g
 ·rcases Rat.mul_eq_zero.1 e2 with k | k
  ·exact absurd ⟨g, k⟩ hv
  ·exact k
 ·exact g
theorem blocked {p : List Pt} (h : validB p = true) (h3 : 3 ≤ p.length) {v : P2} (hv : ¬ (v.1 = 0 ∧ v.2 = 0)) : ∃ c ∈ conP p, c.dir v < 0 := by
 refine Classical.byContradiction fun hno => ?_
 have hall : ∀ i, i < p.length → 0 ≤ crQ (vecQ (gp p i) (nx p i)) v := fun i hi => by
  rw [← sideQ_dir]
  refine Rat.not_lt.1 fun hl => hno ⟨_, conP_mem hi, hl⟩
 have step : ∀ i, i + 1 < p.length → ((gp p i).1 : Rat) * v.2 - (gp p i).2 * v.1 ≤ ((gp p (i + 1)).1 : Rat) * v.2 - (gp p (i + 1)).2 * v.1 := fun i hi => by
  have := hall i (by omega)
  unfold nx at this
  rw [Nat.mod_eq_of_lt hi] at this
  unfold crQ vecQ at this
  grind
 have last : ((gp p (p.length - 1)).1 : Rat) * v.2 - (gp p (p.length - 1)).2 * v.1 ≤ ((gp p 0).1 : Rat) * v.2 - (gp p 0).2 * v.1 := by
  have := hall (p.length - 1) (by omega)
  unfold nx at this
  rw [show p.length - 1 + 1 = p.length by omega, Nat.mod_self] at this
  unfold crQ vecQ at this
  grind
 have chain : ∀ k, 2 + k < p.length → ((gp p 2).1 : Rat) * v.2 - (gp p 2).2 * v.1 ≤ ((gp p (2 + k)).1 : Rat) * v.2 - (gp p (2 + k)).2 * v.1 := by
  intro k
  induction k with
  | zero => intro _; exact Rat.le_refl
  | succ k ih =>
   intro hk
   exact Rat.le_trans (ih (by omega)) (step (2 + k) (by omega))
 have c2 := chain (p.length - 3) (by omega)
 rw [show 2 + (p.length - 3) = p.length - 1 by omega] at c2
 have s0 := step 0 (by omega)
 have s1 := step 1 (by omega)
 rw [Nat.zero_add] at s0
 have z1 : crQ (vecQ (gp p 0) (gp p 1)) v = 0 := by unfold crQ vecQ; grind
 have z2 : crQ (vecQ (gp p 0) (gp p 2)) v = 0 := by unfold crQ vecQ; grind
 have z := par_zero hv z1 z2
 have hs := strict_side h h3 (i := 0) (k := 2) (by omega) (by omega) (by omega) (by rw [Nat.mod_eq_of_lt (by omega)]; omega)
 rw [Nat.mod_eq_of_lt (by omega), Nat.zero_add] at hs
 have hs := castQ_pos.2 hs
 have e : ((crossP (gp p 0) (gp p 1) (gp p 2) : Int) : Rat) = crQ (vecQ (gp p 0) (gp p 1)) (vecQ (gp p 0) (gp p 2)) := by unfold crossP cross crQ vecQ; push_cast; rfl
 rw [e, z] at hs
 exact absurd hs (Rat.lt_irrefl)
def alongQ (a b : Pt) : Lin := ⟨(b.1 : Rat) - a.1, (b.2 : Rat) - a.2, -(((b.1 : Rat) - a.1) * a.1 + ((b.2 : Rat) - a.2) * a.2)⟩
def conS (a b : Pt) : List Lin := [sideQ a b, sideQ b a, alongQ a b, alongQ b a]
def lenQ (a b : Pt) : Rat := ((b.1 : Rat) - a.1) * (b.1 - a.1) + (b.2 - a.2) * (b.2 - a.2)
theorem sqQ_nonneg (x : Rat) : 0 ≤ x * x := by
 by_cases h : 0 ≤ x
 ·exact Rat.mul_nonneg h h
 ·have := Rat.mul_nonneg (show 0 ≤ -x by grind) (show 0 ≤ -x by grind)
  grind
theorem lenQ_pos {a b : Pt} (h : a ≠ b) : 0 < lenQ a b := by
 have h1 := sqQ_nonneg ((b.1 : Rat) - a.1)
 have h2 := sqQ_nonneg ((b.2 : Rat) - a.2)
 unfold lenQ
 refine Rat.not_le.1 fun hl => h ?_
 have z1 : ((b.1 : Rat) - a.1) * (b.1 - a.1) = 0 := by grind
 have z2 : ((b.2 : Rat) - a.2) * (b.2 - a.2) = 0 := by grind
 have e1 : (b.1 : Rat) = a.1 := by rcases Rat.mul_eq_zero.1 z1 with g | g <;> grind
 have e2 : (b.2 : Rat) = a.2 := by rcases Rat.mul_eq_zero.1 z2 with g | g <;> grind
 exact Prod.ext (by exact_mod_cast e1.symm) (by exact_mod_cast e2.symm)
theorem alongQ_seg (a b : Pt) (r : Rat) : (alongQ a b).at (segQ a b r) = r * lenQ a b := by unfold alongQ Lin.at segQ mvP vecQ q2 lenQ; grind
theorem alongQ_seg' (a b : Pt) (r : Rat) : (alongQ b a).at (segQ a b r) = (1 - r) * lenQ a b := by unfold alongQ Lin.at segQ mvP vecQ q2 lenQ; grind
theorem sideQ_flip (a b : Pt) (w : P2) : (sideQ b a).at w = -(sideQ a b).at w := by unfold sideQ Lin.at; grind
theorem seg_in {a b : Pt} (hab : a ≠ b) {w : P2} (hw : ∀ c ∈ conS a b, 0 ≤ c.at w) : ∃ r, 0 ≤ r ∧ r ≤ 1 ∧ w = segQ a b r := by
 have h1 := hw (sideQ a b) (by simp [conS])
 have h2 := hw (sideQ b a) (by simp [conS])
 have h3 := hw (alongQ a b) (by simp [conS])
 have h4 := hw (alongQ b a) (by simp [conS])
 rw [sideQ_flip] at h2
 obtain ⟨r, rfl⟩ := on_line (w := w) hab (by grind)
 rw [alongQ_seg] at h3
 rw [alongQ_seg'] at h4
 have hp := lenQ_pos hab
 have := pos_of_mulQ hp h3
 have := pos_of_mulQ hp h4
 exact ⟨r, by assumption, by grind, rfl⟩
end Go.Proofs.YtdfhnemhkpplbaaGreatDoor
namespace Go.Proofs.YtdfhnemhkpplbaaGreatDoor
open Go
def conQ (p : List Pt) : List Lin := if p.length = 2 then conS (gp p 0) (gp p 1) else conP p
theorem seg_has {a b x : Pt} (hab : a ≠ b) : (decide (crossP a b x = 0) && betwB a b x) = true ↔ ∀ c ∈ conS a b, 0 ≤ c.at (q2 x) := by
 have al : (alongQ a b).at (q2 x) = (((b.1 - a.1) * (x.1 - a.1) + (b.2 - a.2) * (x.2 - a.2) : Int) : Rat) := by unfold alongQ Lin.at q2; push_cast; grind
 have al' : (alongQ b a).at (q2 x) = (((a.1 - b.1) * (x.1 - b.1) + (a.2 - b.2) * (x.2 - b.2) : Int) : Rat) := by unfold alongQ Lin.at q2; push_cast; grind
 have fl : crossP b a x = -crossP a b x := cross_flip _ _ _
 have hall : (∀ c ∈ conS a b, 0 ≤ c.at (q2 x)) ↔ (crossP a b x = 0 ∧ 0 ≤ (b.1 - a.1) * (x.1 - a.1) + (b.2 - a.2) * (x.2 - a.2) ∧ 0 ≤ (a.1 - b.1) * (x.1 - b.1) + (a.2 - b.2) * (x.2 - b.2)) := by
  simp only [conS, List.mem_cons, List.not_mem_nil, or_false, forall_eq_or_imp, forall_eq]
  rw [sideQ_nonneg, sideQ_nonneg, al, al', castQ_nonneg, castQ_nonneg, fl]
  constructor
  ·rintro ⟨h1, h2, h3, h4⟩; exact ⟨by omega, h3, h4⟩
  ·rintro ⟨h1, h3, h4⟩; exact ⟨by omega, by omega, h3, h4⟩
 rw [hall]
 simp only [betwB, Bool.and_eq_true, decide_eq_true_eq]
 have sg : ∀ {m n : Int}, (0 ≤ m → 0 ≤ n) → (m ≤ 0 → n ≤ 0) → 0 ≤ m * n := fun {m n} g1 g2 => by
  rcases Int.le_total 0 m with h | h
  ·exact Int.mul_nonneg h (g1 h)
  ·have := Int.mul_nonneg (show 0 ≤ -m by omega) (show 0 ≤ -n by have := g2 h; omega)
   rwa [Int.neg_mul_neg] at this
 constructor
 ·rintro ⟨hz, b1, b2, b3, b4⟩
  have m1 := sg (m := b.1 - a.1) (n := x.1 - a.1) (by omega) (by omega)
  have m2 := sg (m := b.2 - a.2) (n := x.2 - a.2) (by omega) (by omega)
  have m3 := sg (m := a.1 - b.1) (n := x.1 - b.1) (by omega) (by omega)
  have m4 := sg (m := a.2 - b.2) (n := x.2 - b.2) (by omega) (by omega)
  exact ⟨hz, by omega, by omega⟩
 ·rintro ⟨hz, h3, h4⟩
  refine ⟨hz, ?_⟩
  -- |u|² y.1 = u.1 (u · y), and so on
  have hL : 0 < (b.1 - a.1) * (b.1 - a.1) + (b.2 - a.2) * (b.2 - a.2) := by
   have := lenQ_pos hab
   have e : lenQ a b = (((b.1 - a.1) * (b.1 - a.1) + (b.2 - a.2) * (b.2 - a.2) : Int) : Rat) := by unfold lenQ; push_cast; rfl
   rw [e] at this; exact castQ_pos.1 this
  have hz' : (b.1 - a.1) * (x.2 - a.2) = (b.2 - a.2) * (x.1 - a.1) := by unfold crossP cross at hz; omega
  have e1 : ((b.1 - a.1) * (b.1 - a.1) + (b.2 - a.2) * (b.2 - a.2)) * (x.1 - a.1) = (b.1 - a.1) * ((b.1 - a.1) * (x.1 - a.1) + (b.2 - a.2) * (x.2 - a.2)) := by grind
  have e2 : ((b.1 - a.1) * (b.1 - a.1) + (b.2 - a.2) * (b.2 - a.2)) * (x.2 - a.2) = (b.2 - a.2) * ((b.1 - a.1) * (x.1 - a.1) + (b.2 - a.2) * (x.2 - a.2)) := by grind
  have e3 : ((b.1 - a.1) * (b.1 - a.1) + (b.2 - a.2) * (b.2 - a.2)) * (b.1 - x.1) = (b.1 - a.1) * ((a.1 - b.1) * (x.1 - b.1) + (a.2 - b.2) * (x.2 - b.2)) := by grind
  have e4 : ((b.1 - a.1) * (b.1 - a.1) + (b.2 - a.2) * (b.2 - a.2)) * (b.2 - x.2) = (b.2 - a.2) * ((a.1 - b.1) * (x.1 - b.1) + (a.2 - b.2) * (x.2 - b.2)) := by grind
  generalize (b.1 - a.1) * (b.1 - a.1) + (b.2 - a.2) * (b.2 - a.2) = L at *
  generalize (b.1 - a.1) * (x.1 - a.1) + (b.2 - a.2) * (x.2 - a.2) = S at *
  generalize (a.1 - b.1) * (x.1 - b.1) + (a.2 - b.2) * (x.2 - b.2) = T at *
  have sgn : ∀ {u y S : Int}, 0 ≤ S → L * y = u * S → (0 ≤ u → 0 ≤ y) ∧ (u ≤ 0 → y ≤ 0) := fun {u y S} hS e => by
   refine ⟨fun hu => pos_of_mul hL (by rw [e]; exact Int.mul_nonneg hu hS), fun hu => ?_⟩
   have := Int.mul_nonneg (show 0 ≤ -u by omega) hS
   rw [Int.neg_mul] at this
   have := pos_of_mul (y := -y) hL (by rw [Int.mul_neg]; omega)
   omega
  have g1 := sgn h3 e1
  have g2 := sgn h3 e2
  have g3 := sgn h4 e3
  have g4 := sgn h4 e4
  omega
theorem con_has {p : List Pt} (h : validB p = true) (h2 : 2 ≤ p.length) {x : Pt} : hasB p x = true ↔ ∀ c ∈ conQ p, 0 ≤ c.at (q2 x) := by
 unfold hasB conQ
 rw [if_neg (by omega)]
 by_cases e : p.length = 2
 ·rw [if_pos e, if_pos e]
  exact seg_has (corner_ne h (i := 1) (k := 0) (by omega) (by omega) (by omega))
 ·rw [if_neg e, if_neg e]
  constructor
  ·intro hx c hc
   obtain ⟨i, hi, rfl⟩ := conP_of hc
   have := all_iff.1 hx i hi
   simp only [sideB, decide_eq_true_eq] at this
   exact sideQ_nonneg.2 this
  ·intro hx
   refine all_true fun i hi => ?_
   simp only [sideB, decide_eq_true_eq]
   exact sideQ_nonneg.1 (hx _ (conP_mem hi))
def crossesB (s t : Int) : Bool := (decide (s < 0) && decide (0 < t)) || (decide (0 < s) && decide (t < 0))
theorem crosses_iff {s t : Int} : crossesB s t = true ↔ (s < 0 ∧ 0 < t) ∨ (0 < s ∧ t < 0) := by simp [crossesB]
theorem crosses_of {s t : Int} {r : Rat} (h0 : r ≠ 0) (h1 : r ≠ 1) (r0 : 0 ≤ r) (r1 : r ≤ 1) (h : (1 - r) * (s : Rat) + r * (t : Rat) = 0) (hne : s ≠ 0) : crossesB s t = true := by
 rw [crosses_iff]
 have p0 : 0 < r := by grind
 have p1 : 0 < 1 - r := by grind
 rcases Int.lt_or_lt_of_ne hne with g | g
 ·refine .inl ⟨g, ?_⟩
  have := Rat.mul_pos p1 (castQ_pos.2 (show 0 < -s by omega))
  push_cast at this
  refine castQ_pos.1 ?_
  refine Rat.not_le.1 fun hl => ?_
  have := Rat.mul_nonneg r0 (show 0 ≤ -(t : Rat) by grind)
  grind
 ·refine .inr ⟨g, ?_⟩
  have := Rat.mul_pos p1 (castQ_pos.2 g)
  refine Int.not_le.1 fun hl => ?_
  have := Rat.mul_nonneg r0 (castQ_nonneg.2 hl)
  grind
def crossIJ (p q : List Pt) (i j : Nat) : Bool := crossesB (crossP (gp p i) (nx p i) (gp q j)) (crossP (gp p i) (nx p i) (nx q j)) && crossesB (crossP (gp q j) (nx q j) (gp p i)) (crossP (gp q j) (nx q j) (nx p i))
theorem crossIJ_comm (p q : List Pt) (i j : Nat) : crossIJ p q i j = crossIJ q p j i := Bool.and_comm _ _
theorem nx_mem {p : List Pt} {i : Nat} (hi : i < p.length) : nx p i ∈ p := gp_mem (Nat.mod_lt _ (by omega))
theorem cut_neg {p : List Pt} (hp : validB p = true) {A B C : Int} (hAB : ¬ (A = 0 ∧ B = 0)) {f : Lin}
  (no1 : ∀ y ∈ p, A * y.1 + B * y.2 - C ≤ 0 → ¬ f.at (q2 y) < 0)
  (no2 : ∀ i, i < p.length → crossesB (A * (gp p i).1 + B * (gp p i).2 - C) (A * (nx p i).1 + B * (nx p i).2 - C) = true → ∀ r, (1 - r) * ((A * (gp p i).1 + B * (gp p i).2 - C : Int) : Rat) + r * ((A * (nx p i).1 + B * (nx p i).2 - C : Int) : Rat) = 0 → ¬ f.at (segQ (gp p i) (nx p i) r) < 0)
  {x : Pt} (hx : hasB p x = true) (hg : A * x.1 + B * x.2 - C ≤ 0) : ¬ f.at (q2 x) < 0 := by
 intro hf
 have hl := len_one hp
 have gat : ∀ y : Pt, (⟨-A, -B, C⟩ : Lin).at (q2 y) = -((A * y.1 + B * y.2 - C : Int) : Rat) := fun y => by unfold Lin.at q2; push_cast; grind
 by_cases h1 : p.length = 1
 ·unfold hasB at hx
  rw [if_pos h1, beq_iff_eq] at hx
  exact no1 _ (gp_mem (show 0 < p.length by omega)) (by rw [hx]; exact hg) (by rw [hx]; exact hf)
 have h2 : 2 ≤ p.length := by omega
 have inP := (con_has hp h2).1 hx
 have side : ∀ i, i < p.length → ∀ s, 0 ≤ s → s ≤ 1 → 0 ≤ (⟨-A, -B, C⟩ : Lin).at (segQ (gp p i) (nx p i) s) → f.at (segQ (gp p i) (nx p i) s) < 0 → False := fun i hi s s0 s1 hgs hfs => by
  obtain ⟨t, t0, t1, hL, hft, hend⟩ := slide_seg (gp p i) (nx p i) [⟨-A, -B, C⟩] f s s0 s1 (fun c hc => by rw [List.mem_singleton.1 hc]; exact hgs) hfs
  have hg' := hL _ (List.mem_singleton.2 rfl)
  have atA : t = 0 → False := fun e => by
   subst e
   rw [segQ_0] at hg' hft
   rw [gat] at hg'
   refine no1 _ (gp_mem hi) ?_ hft
   have : ((A * (gp p i).1 + B * (gp p i).2 - C : Int) : Rat) ≤ ((0 : Int) : Rat) := by grind
   exact_mod_cast this
  have atB : t = 1 → False := fun e => by
   subst e
   rw [segQ_1] at hg' hft
   rw [gat] at hg'
   refine no1 _ (nx_mem hi) ?_ hft
   have : ((A * (nx p i).1 + B * (nx p i).2 - C : Int) : Rat) ≤ ((0 : Int) : Rat) := by grind
   exact_mod_cast this
  rcases hend with e | e | ⟨c, hc, hc0, hcd⟩
  ·exact atA e
  ·exact atB e
  by_cases e0 : t = 0
  ·exact atA e0
  by_cases e1 : t = 1
  ·exact atB e1
  obtain rfl := List.mem_singleton.1 hc
  rw [segQ_at, gat, gat] at hc0
  have hz : (1 - t) * ((A * (gp p i).1 + B * (gp p i).2 - C : Int) : Rat) + t * ((A * (nx p i).1 + B * (nx p i).2 - C : Int) : Rat) = 0 := by grind
  have hne : A * (gp p i).1 + B * (gp p i).2 - C ≠ 0 := fun h => by
   rw [h] at hz
   have : t * ((A * (nx p i).1 + B * (nx p i).2 - C : Int) : Rat) = 0 := by push_cast at hz; grind
   rcases Rat.mul_eq_zero.1 this with g | g
   ·exact e0 g
   ·refine hcd ?_
    have h' := castQ_zero.2 h
    unfold Lin.dir vecQ
    push_cast at g h'
    grind
  exact no2 i hi (crosses_of e0 e1 t0 t1 hz hne) t hz hft
 have hgx : 0 ≤ (⟨-A, -B, C⟩ : Lin).at (q2 x) := by
  rw [gat]
  have : ((A * x.1 + B * x.2 - C : Int) : Rat) ≤ ((0 : Int) : Rat) := by exact_mod_cast hg
  grind
 by_cases h3 : p.length = 2
 ·unfold conQ at inP
  rw [if_pos h3] at inP
  obtain ⟨r, r0, r1, e⟩ := seg_in (corner_ne hp (i := 1) (k := 0) (by omega) (by omega) (by omega)) inP
  have en : nx p 0 = gp p 1 := by unfold nx; rw [Nat.mod_eq_of_lt (by omega)]
  rw [← en] at e
  refine side 0 (by omega) r r0 r1 ?_ ?_
  ·rw [← e]; exact hgx
  ·rw [← e]; exact hf
 have cP : conQ p = conP p := by unfold conQ; rw [if_neg h3]
 have go : ∀ v : P2, ¬ (v.1 = 0 ∧ v.2 = 0) → (⟨-A, -B, C⟩ : Lin).dir v = 0 → f.dir v ≤ 0 → False := fun v hv hgd hd => by
  obtain ⟨c0, hc0, hb⟩ := blocked hp (by omega) hv
  obtain ⟨t, t0, hall, c, hc, _, htight⟩ := slide_lin (conP p) (q2 x) v (fun c hc => inP c (by rw [cP]; exact hc)) ⟨c0, hc0, hb⟩
  obtain ⟨i, hi, rfl⟩ := conP_of hc
  obtain ⟨r, r0, r1, e⟩ := side_seg hp (by omega) hi hall htight
  refine side i hi r r0 r1 ?_ ?_
  ·rw [← e, at_mv, hgd]; grind
  ·rw [← e, at_mv]
   have := Rat.mul_nonneg t0 (show 0 ≤ -f.dir v by grind)
   grind
 have hv : ¬ ((B : Rat) = 0 ∧ -(A : Rat) = 0) := fun h => hAB ⟨castQ_zero.1 (by grind), castQ_zero.1 h.1⟩
 by_cases hd : f.dir ((B : Rat), -(A : Rat)) ≤ 0
 ·exact go (B, -A) hv (by unfold Lin.dir; grind) hd
 ·refine go (-B, A) (fun h => hv ⟨by have := h.1; simp only at this; grind, by have := h.2; simp only at this; grind⟩) (by unfold Lin.dir; grind) ?_
  unfold Lin.dir at *
  grind
end Go.Proofs.YtdfhnemhkpplbaaGreatDoor
namespace Go.Proofs.YtdfhnemhkpplbaaGreatDoor
open Go
def flr (a b : Int) : Int := if 0 < b then a / b else (-a) / (-b)
theorem flr_spec {a b : Int} (hb : b ≠ 0) {y : Rat} (h : (b : Rat) * y = a) : ((flr a b : Int) : Rat) ≤ y ∧ y < ((flr a b : Int) : Rat) + 1 := by
 have main : ∀ {a b : Int}, 0 < b → (b : Rat) * y = a → ((a / b : Int) : Rat) ≤ y ∧ y < ((a / b : Int) : Rat) + 1 := fun {a b} hb h => by
  have e := Int.mul_ediv_add_emod a b
  have r0 := Int.emod_nonneg a (show b ≠ 0 by omega)
  have r1 := Int.emod_lt_of_pos a hb
  have e' : (b : Rat) * ((a / b : Int) : Rat) + ((a % b : Int) : Rat) = (a : Rat) := by exact_mod_cast e
  have q0 := castQ_nonneg.2 r0
  have q1 : 0 < (b : Rat) - ((a % b : Int) : Rat) := by
   have := castQ_pos.2 (show 0 < b - a % b by omega)
   push_cast at this; exact this
  have hb' := castQ_pos.2 hb
  constructor
  ·have := pos_of_mulQ (t := (b : Rat)) (y := y - ((a / b : Int) : Rat)) hb' (by grind)
   grind
  ·refine Rat.not_le.1 fun hl => ?_
   have := Rat.mul_nonneg (Rat.le_of_lt hb') (show 0 ≤ y - (((a / b : Int) : Rat) + 1) by grind)
   grind
 unfold flr
 split
 ·rename_i hp; exact main hp h
 ·exact main (b := -b) (a := -a) (by omega) (by push_cast; grind)
theorem floor_unique {m n : Int} {y : Rat} (h1 : (m : Rat) ≤ y) (h2 : y < (m : Rat) + 1) (k1 : (n : Rat) ≤ y) (k2 : y < (n : Rat) + 1) : m = n := by
 have a1 : (m : Rat) < ((n + 1 : Int) : Rat) := by push_cast; grind
 have a2 : (n : Rat) < ((m + 1 : Int) : Rat) := by push_cast; grind
 have a1 : m < n + 1 := by exact_mod_cast a1
 have a2 : n < m + 1 := by exact_mod_cast a2
 omega
def lo1 (x y s t : Int) : Int := x + flr ((y - x) * s) (s - t)
def hi1 (x y s t : Int) : Int := x - flr (-((y - x) * s)) (s - t)
def frameP (a b : Pt) (s t : Int) : List Pt := [(lo1 a.1 b.1 s t, lo1 a.2 b.2 s t), (lo1 a.1 b.1 s t, hi1 a.2 b.2 s t), (hi1 a.1 b.1 s t, lo1 a.2 b.2 s t), (hi1 a.1 b.1 s t, hi1 a.2 b.2 s t)]
theorem crosses_ne {s t : Int} (h : crossesB s t = true) : s - t ≠ 0 := by
 rcases crosses_iff.1 h with ⟨h1, h2⟩ | ⟨h1, h2⟩ <;> omega
theorem cut_at {s t : Int} (h : crossesB s t = true) : ∃ r : Rat, 0 < r ∧ r < 1 ∧ (1 - r) * (s : Rat) + r * (t : Rat) = 0 := by
 have hd : (s : Rat) - t ≠ 0 := fun e => crosses_ne h (castQ_zero.1 (by push_cast; exact e))
 refine ⟨(s : Rat) / ((s : Rat) - t), ?_, ?_, by grind⟩
 ·rcases crosses_iff.1 h with ⟨h1, h2⟩ | ⟨h1, h2⟩
  ·have e : (s : Rat) / ((s : Rat) - t) = (-(s : Rat)) / ((t : Rat) - s) := by grind
   rw [e, Rat.div_def]
   have p1 := castQ_pos.2 (show 0 < -s by omega)
   have p2 := castQ_pos.2 (show 0 < t - s by omega)
   push_cast at p1 p2
   exact Rat.mul_pos p1 (Rat.inv_pos.2 p2)
  ·rw [Rat.div_def]
   have p1 := castQ_pos.2 h1
   have p2 := castQ_pos.2 (show 0 < s - t by omega)
   push_cast at p2
   exact Rat.mul_pos p1 (Rat.inv_pos.2 p2)
 ·have key : 0 < 1 - (s : Rat) / ((s : Rat) - t) := by
   rcases crosses_iff.1 h with ⟨h1, h2⟩ | ⟨h1, h2⟩
   ·have e : 1 - (s : Rat) / ((s : Rat) - t) = (t : Rat) / ((t : Rat) - s) := by grind
    rw [e, Rat.div_def]
    have p1 := castQ_pos.2 h2
    have p2 := castQ_pos.2 (show 0 < t - s by omega)
    push_cast at p2
    exact Rat.mul_pos p1 (Rat.inv_pos.2 p2)
   ·have e : 1 - (s : Rat) / ((s : Rat) - t) = (-(t : Rat)) / ((s : Rat) - t) := by grind
    rw [e, Rat.div_def]
    have p1 := castQ_pos.2 (show 0 < -t by omega)
    have p2 := castQ_pos.2 (show 0 < s - t by omega)
    push_cast at p1 p2
    exact Rat.mul_pos p1 (Rat.inv_pos.2 p2)
  grind
theorem lo1_spec {x y s t : Int} {r : Rat} (h : crossesB s t = true) (hr : (1 - r) * (s : Rat) + r * (t : Rat) = 0) : ((lo1 x y s t : Int) : Rat) ≤ x + r * ((y : Rat) - x) ∧ x + r * ((y : Rat) - x) < ((lo1 x y s t : Int) : Rat) + 1 := by
 have := flr_spec (a := (y - x) * s) (b := s - t) (crosses_ne h) (y := r * ((y : Rat) - x)) (by push_cast; grind)
 unfold lo1
 push_cast
 constructor <;> grind
theorem hi1_spec {x y s t : Int} {r : Rat} (h : crossesB s t = true) (hr : (1 - r) * (s : Rat) + r * (t : Rat) = 0) : x + r * ((y : Rat) - x) ≤ ((hi1 x y s t : Int) : Rat) ∧ ((hi1 x y s t : Int) : Rat) - 1 < x + r * ((y : Rat) - x) := by
 have := flr_spec (a := -((y - x) * s)) (b := s - t) (crosses_ne h) (y := -(r * ((y : Rat) - x))) (by push_cast; grind)
 unfold hi1
 push_cast
 constructor <;> grind
theorem pickQ {α w : Rat} {f c : Int} (h1 : (f : Rat) ≤ w) (h2 : w ≤ (c : Rat)) : ∃ X : Int, (X = f ∨ X = c) ∧ α * (X : Rat) ≤ α * w := by
 by_cases h : 0 ≤ α
 ·have := Rat.mul_nonneg h (show 0 ≤ w - f by grind)
  exact ⟨f, .inl rfl, by grind⟩
 ·have := Rat.mul_nonneg (show 0 ≤ -α by grind) (show 0 ≤ (c : Rat) - w by grind)
  exact ⟨c, .inr rfl, by grind⟩
theorem frame_lin {a b : Pt} {s t α β γ : Int} {r : Rat} (h : crossesB s t = true) (hr : (1 - r) * (s : Rat) + r * (t : Rat) = 0) (hf : ∀ y ∈ frameP a b s t, 0 ≤ aff α β γ y) : 0 ≤ (linI α β γ).at (segQ a b r) := by
 obtain ⟨a1, _⟩ := lo1_spec (x := a.1) (y := b.1) h hr
 obtain ⟨a2, _⟩ := hi1_spec (x := a.1) (y := b.1) h hr
 obtain ⟨b1, _⟩ := lo1_spec (x := a.2) (y := b.2) h hr
 obtain ⟨b2, _⟩ := hi1_spec (x := a.2) (y := b.2) h hr
 obtain ⟨X, hX, eX⟩ := pickQ (α := α) a1 a2
 obtain ⟨Y, hY, eY⟩ := pickQ (α := β) b1 b2
 have hm : (X, Y) ∈ frameP a b s t := by
  rcases hX with rfl | rfl <;> rcases hY with rfl | rfl <;> simp [frameP]
 have := linI_nonneg.2 (hf _ hm)
 unfold linI Lin.at q2 at this
 unfold linI Lin.at segQ mvP vecQ q2
 simp only at this ⊢
 grind
theorem frame_near {a b y : Pt} {s t : Int} {r : Rat} (h : crossesB s t = true) (hr : (1 - r) * (s : Rat) + r * (t : Rat) = 0) (hy : y ∈ frameP a b s t) :
  (-1 < (y.1 : Rat) - (segQ a b r).1 ∧ (y.1 : Rat) - (segQ a b r).1 < 1) ∧ -1 < (y.2 : Rat) - (segQ a b r).2 ∧ (y.2 : Rat) - (segQ a b r).2 < 1 := by
 have a1 := lo1_spec (x := a.1) (y := b.1) h hr
 have a2 := hi1_spec (x := a.1) (y := b.1) h hr
 have b1 := lo1_spec (x := a.2) (y := b.2) h hr
 have b2 := hi1_spec (x := a.2) (y := b.2) h hr
 have e1 : (segQ a b r).1 = a.1 + r * ((b.1 : Rat) - a.1) := rfl
 have e2 : (segQ a b r).2 = a.2 + r * ((b.2 : Rat) - a.2) := rfl
 rw [e1, e2]
 simp only [frameP, List.mem_cons, List.not_mem_nil, or_false] at hy
 rcases hy with rfl | rfl | rfl | rfl <;> (simp only; refine ⟨⟨?_, ?_⟩, ?_, ?_⟩ <;> grind)
theorem betw_int {m M n : Int} {w : Rat} (h1 : (m : Rat) ≤ w) (h2 : w ≤ (M : Rat)) (k1 : -1 < (n : Rat) - w) (k2 : (n : Rat) - w < 1) : m ≤ n ∧ n ≤ M := by
 have a1 : ((m - 1 : Int) : Rat) < (n : Rat) := by push_cast; grind
 have a2 : (n : Rat) < ((M + 1 : Int) : Rat) := by push_cast; grind
 have a1 : m - 1 < n := by exact_mod_cast a1
 have a2 : n < M + 1 := by exact_mod_cast a2
 omega
theorem frame_box {a b y : Pt} {s t : Int} (h : crossesB s t = true) (hy : y ∈ frameP a b s t) {m1 M1 m2 M2 : Int} (ha : m1 ≤ a.1 ∧ a.1 ≤ M1 ∧ m2 ≤ a.2 ∧ a.2 ≤ M2) (hb : m1 ≤ b.1 ∧ b.1 ≤ M1 ∧ m2 ≤ b.2 ∧ b.2 ≤ M2) : m1 ≤ y.1 ∧ y.1 ≤ M1 ∧ m2 ≤ y.2 ∧ y.2 ≤ M2 := by
 obtain ⟨r, r0, r1, hr⟩ := cut_at h
 obtain ⟨⟨n1, n2⟩, n3, n4⟩ := frame_near h hr hy
 have mix : ∀ {x y m M : Int}, m ≤ x ∧ x ≤ M → m ≤ y ∧ y ≤ M → (m : Rat) ≤ x + r * ((y : Rat) - x) ∧ x + r * ((y : Rat) - x) ≤ (M : Rat) := fun {x y m M} hx hy => by
  have p1 := Rat.mul_nonneg (show 0 ≤ 1 - r by grind) (castQ_nonneg.2 (show 0 ≤ x - m by omega))
  have p2 := Rat.mul_nonneg (Rat.le_of_lt r0) (castQ_nonneg.2 (show 0 ≤ y - m by omega))
  have p3 := Rat.mul_nonneg (show 0 ≤ 1 - r by grind) (castQ_nonneg.2 (show 0 ≤ M - x by omega))
  have p4 := Rat.mul_nonneg (Rat.le_of_lt r0) (castQ_nonneg.2 (show 0 ≤ M - y by omega))
  push_cast at p1 p2 p3 p4
  constructor <;> grind
 have g1 := mix ⟨ha.1, ha.2.1⟩ ⟨hb.1, hb.2.1⟩
 have g2 := mix ⟨ha.2.2.1, ha.2.2.2⟩ ⟨hb.2.2.1, hb.2.2.2⟩
 have z1 := betw_int g1.1 g1.2 n1 n2
 have z2 := betw_int g2.1 g2.2 n3 n4
 exact ⟨z1.1, z1.2, z2.1, z2.2⟩
theorem frame_same {a b c d : Pt} (h : crossesB (crossP a b c) (crossP a b d) = true) (k : crossesB (crossP c d a) (crossP c d b) = true) : frameP c d (crossP a b c) (crossP a b d) = frameP a b (crossP c d a) (crossP c d b) := by
 obtain ⟨r, r0, r1, hr⟩ := cut_at h
 have hab : a ≠ b := fun e => by
  subst e
  have : ∀ y, crossP a a y = 0 := fun y => by unfold crossP cross; grind
  rw [this, this] at h; cases h
 obtain ⟨u, hu⟩ := on_line (w := segQ c d r) hab (by rw [segQ_at, sideQ_at, sideQ_at]; exact hr)
 have hu' : (1 - u) * ((crossP c d a : Int) : Rat) + u * ((crossP c d b : Int) : Rat) = 0 := by
  rw [← sideQ_at, ← sideQ_at, ← segQ_at, ← hu, segQ_at, sideQ_l, sideQ_r]; grind
 have e1 : c.1 + r * ((d.1 : Rat) - c.1) = a.1 + u * ((b.1 : Rat) - a.1) := congrArg (fun w : P2 => w.1) hu
 have e2 : c.2 + r * ((d.2 : Rat) - c.2) = a.2 + u * ((b.2 : Rat) - a.2) := congrArg (fun w : P2 => w.2) hu
 have lo : ∀ {x y x' y' : Int}, (x : Rat) + r * ((y : Rat) - x) = x' + u * ((y' : Rat) - x') → lo1 x y (crossP a b c) (crossP a b d) = lo1 x' y' (crossP c d a) (crossP c d b) := fun {x y x' y'} e => by
  have g1 := lo1_spec (x := x) (y := y) h hr
  have g2 := lo1_spec (x := x') (y := y') k hu'
  rw [e] at g1
  exact floor_unique g1.1 g1.2 g2.1 g2.2
 have hi : ∀ {x y x' y' : Int}, (x : Rat) + r * ((y : Rat) - x) = x' + u * ((y' : Rat) - x') → hi1 x y (crossP a b c) (crossP a b d) = hi1 x' y' (crossP c d a) (crossP c d b) := fun {x y x' y'} e => by
  have g1 := hi1_spec (x := x) (y := y) h hr
  have g2 := hi1_spec (x := x') (y := y') k hu'
  rw [e] at g1
  have a1 : ((hi1 x y (crossP a b c) (crossP a b d) : Int) : Rat) < ((hi1 x' y' (crossP c d a) (crossP c d b) + 1 : Int) : Rat) := by push_cast; grind
  have a2 : ((hi1 x' y' (crossP c d a) (crossP c d b) : Int) : Rat) < ((hi1 x y (crossP a b c) (crossP a b d) + 1 : Int) : Rat) := by push_cast; grind
  have a1 : hi1 x y (crossP a b c) (crossP a b d) < hi1 x' y' (crossP c d a) (crossP c d b) + 1 := by exact_mod_cast a1
  have a2 : hi1 x' y' (crossP c d a) (crossP c d b) < hi1 x y (crossP a b c) (crossP a b d) + 1 := by exact_mod_cast a2
  omega
 unfold frameP
 rw [lo e1, lo e2, hi e1, hi e2]
end Go.Proofs.YtdfhnemhkpplbaaGreatDoor
namespace Go.Proofs.YtdfhnemhkpplbaaGreatDoor
open Go
theorem mem_64 {l : List Pt} (h : ∀ p ∈ l, placeB p = true) : i64P l := fun i hi => place_64 (h _ (gp_mem hi))
theorem hullB_mid {l : List Pt} (hp : ∀ p ∈ l, placeB p = true) (hne : l ≠ []) (hl : l.length ≤ 4000) : hullB l = if (aroundP l).length ≤ 64 then (aroundP l, 0) else ([], 2) := by
 unfold hullB
 rw [if_neg (by omega), if_neg]
 ·split <;> split <;> first | rfl | omega
 rintro (h | h)
 ·exact hne h
 ·rw [List.all_eq_true.2 hp] at h; cases h
theorem valid_small {l : List Pt} (hp : ∀ p ∈ l, placeB p = true) (hne : l ≠ []) (hl : (aroundP l).length ≤ 64) : validB (aroundP l) = true := (around_hl hne).valid hp hl
theorem valid_mem {p : List Pt} (h : validB p = true) : ∀ x ∈ p, placeB x = true := fun x hx => by
 obtain ⟨i, hi, rfl⟩ := mem_gp hx
 exact valid_place h hi
theorem lo_le {g : Pt → Int} {A B : List Pt} (hA : 1 ≤ A.length) (hB : 1 ≤ B.length) (h : ∀ x ∈ A, loB g B ≤ g x) (k : ∀ x ∈ B, loB g A ≤ g x) : loB g A = loB g B := by
 obtain ⟨_, y, hy, e⟩ := lo_spec g hA
 obtain ⟨_, z, hz, f⟩ := lo_spec g hB
 have := h y hy
 have := k z hz
 omega
theorem hi_le {g : Pt → Int} {A B : List Pt} (hA : 1 ≤ A.length) (hB : 1 ≤ B.length) (h : ∀ x ∈ A, g x ≤ hiB g B) (k : ∀ x ∈ B, g x ≤ hiB g A) : hiB g A = hiB g B := by
 obtain ⟨_, y, hy, e⟩ := hi_spec g hA
 obtain ⟨_, z, hz, f⟩ := hi_spec g hB
 have := h y hy
 have := k z hz
 omega
theorem b8_ext {A B : List Pt} (hA : 1 ≤ A.length) (hB : 1 ≤ B.length) (h : ∀ x ∈ A, (b8 B).has x) (k : ∀ x ∈ B, (b8 A).has x) : b8 A = b8 B := by
 show (⟨loB fX A, hiB fX A, loB fY A, hiB fY A, loB fS A, hiB fS A, loB fD A, hiB fD A⟩ : B8) = ⟨loB fX B, hiB fX B, loB fY B, hiB fY B, loB fS B, hiB fS B, loB fD B, hiB fD B⟩
 rw [lo_le (g := fX) hA hB (fun x hx => (h x hx).1) (fun x hx => (k x hx).1),
  hi_le (g := fX) hA hB (fun x hx => (h x hx).2.1) (fun x hx => (k x hx).2.1),
  lo_le (g := fY) hA hB (fun x hx => (h x hx).2.2.1) (fun x hx => (k x hx).2.2.1),
  hi_le (g := fY) hA hB (fun x hx => (h x hx).2.2.2.1) (fun x hx => (k x hx).2.2.2.1),
  lo_le (g := fS) hA hB (fun x hx => (h x hx).2.2.2.2.1) (fun x hx => (k x hx).2.2.2.2.1),
  hi_le (g := fS) hA hB (fun x hx => (h x hx).2.2.2.2.2.1) (fun x hx => (k x hx).2.2.2.2.2.1),
  lo_le (g := fD) hA hB (fun x hx => (h x hx).2.2.2.2.2.2.1) (fun x hx => (k x hx).2.2.2.2.2.2.1),
  hi_le (g := fD) hA hB (fun x hx => (h x hx).2.2.2.2.2.2.2) (fun x hx => (k x hx).2.2.2.2.2.2.2)]
theorem b8_mono {A B : List Pt} (hA : 1 ≤ A.length) (hB : 1 ≤ B.length) (h : ∀ x ∈ A, (b8 B).has x) {y : Pt} (hy : (b8 A).has y) : (b8 B).has y := by
 have lo : ∀ g : Pt → Int, (∀ x ∈ A, loB g B ≤ g x) → loB g B ≤ loB g A := fun g hg => by
  obtain ⟨_, z, hz, e⟩ := lo_spec g hA
  rw [e]; exact hg z hz
 have hi : ∀ g : Pt → Int, (∀ x ∈ A, g x ≤ hiB g B) → hiB g A ≤ hiB g B := fun g hg => by
  obtain ⟨_, z, hz, e⟩ := hi_spec g hA
  rw [e]; exact hg z hz
 obtain ⟨h1, h2, h3, h4, h5, h6, h7, h8⟩ := hy
 exact ⟨Int.le_trans (lo fX fun x hx => (h x hx).1) h1, Int.le_trans h2 (hi fX fun x hx => (h x hx).2.1),
  Int.le_trans (lo fY fun x hx => (h x hx).2.2.1) h3, Int.le_trans h4 (hi fY fun x hx => (h x hx).2.2.2.1),
  Int.le_trans (lo fS fun x hx => (h x hx).2.2.2.2.1) h5, Int.le_trans h6 (hi fS fun x hx => (h x hx).2.2.2.2.2.1),
  Int.le_trans (lo fD fun x hx => (h x hx).2.2.2.2.2.2.1) h7, Int.le_trans h8 (hi fD fun x hx => (h x hx).2.2.2.2.2.2.2)⟩
theorem ne_len {l : List Pt} (h : l ≠ []) : 1 ≤ l.length := List.length_pos_iff.2 h
theorem corners_hl {S q : List Pt} (h : Hl S q) {x : Pt} (hx : hasB q x = true) (a b c : Int) (hc : ∀ i, i < q.length → 0 ≤ aff a b c (gp q i)) : 0 ≤ aff a b c x := by
 by_cases h64 : q.length ≤ 2
 ·have hn := h.pos
  unfold hasB at hx
  split at hx
  ·have : gp q 0 = x := by simpa using hx
   rw [← this]; exact hc 0 (by omega)
  rw [if_pos (by omega)] at hx
  simp only [Bool.and_eq_true, decide_eq_true_eq, betwB] at hx
  obtain ⟨hz, b1, b2, b3, b4⟩ := hx
  have hl : lexLt (gp q 0) (gp q 1) := by
   cases h with
   | one a hp _ _ => subst hp; rename_i h1; exact absurd rfl h1
   | many h =>
    rcases lexLe_cases (h.fst _ (h.side 1 (by omega)).1) with g | g
    ·exact g
    ·exact absurd g (h.inj 0 1 (by omega) (by omega))
  have c0 := hc 0 (by omega)
  have c1 := hc 1 (by omega)
  unfold lexLt at hl
  rcases hl with hl | ⟨he, hl⟩
  ·refine pos_of_mul (t := (gp q 1).1 - (gp q 0).1) (by omega) ?_
   rw [seg_x, hz]
   have g1 := Int.mul_nonneg (show 0 ≤ (gp q 1).1 - x.1 by omega) c0
   have g2 := Int.mul_nonneg (show 0 ≤ x.1 - (gp q 0).1 by omega) c1
   omega
  ·refine pos_of_mul (t := (gp q 1).2 - (gp q 0).2) (by omega) ?_
   rw [seg_y, hz]
   have g1 := Int.mul_nonneg (show 0 ≤ (gp q 1).2 - x.2 by omega) c0
   have g2 := Int.mul_nonneg (show 0 ≤ x.2 - (gp q 0).2 by omega) c1
   omega
 ·cases h with
  | one a hp _ _ => subst hp; exact absurd (show 1 ≤ 2 by decide) h64
  | many h =>
   unfold hasB at hx
   rw [if_neg (by omega), if_neg (by omega)] at hx
   have hs : ∀ i, i < q.length → 0 ≤ crossP (gp q i) (gp q ((i + 1) % q.length)) x := fun i hi => by
    have := all_iff.1 hx i hi
    simpa [sideB] using this
   have s0 := hs 0 (by omega)
   rw [Nat.mod_eq_of_lt (show 0 + 1 < q.length by omega)] at s0
   have sn := hs (q.length - 1) (by omega)
   rw [show q.length - 1 + 1 = q.length by omega, Nat.mod_self] at sn
   obtain ⟨i, i1, i2, p1, p2⟩ := sign_change (fun i => crossP (gp q 0) (gp q i) x) (q.length - 3) s0 (by
    show crossP (gp q 0) (gp q (q.length - 3 + 2)) x ≤ 0
    rw [show q.length - 3 + 2 = q.length - 1 by omega, cross_flip]; omega)
   have hsi := hs i (by omega)
   rw [Nat.mod_eq_of_lt (show i + 1 < q.length by omega)] at hsi
   have ht : 0 < crossP (gp q 0) (gp q i) (gp q (i + 1)) := by
    have e := h.strict (i := i) (by omega) (k := 0) (by omega) (by omega) (by rw [Nat.mod_eq_of_lt (by omega)]; omega)
    rw [Nat.mod_eq_of_lt (show i + 1 < q.length by omega)] at e
    rw [cross_rot] at e; exact e
   refine pos_of_mul ht ?_
   rw [bary]
   have g1 := Int.mul_nonneg hsi (hc 0 (by omega))
   have g2 := Int.mul_nonneg (show 0 ≤ crossP (gp q (i + 1)) (gp q 0) x by rw [cross_flip]; omega) (hc i (by omega))
   have g3 := Int.mul_nonneg p1 (hc (i + 1) (by omega))
   omega
theorem b8_hl {S q : List Pt} (h : Hl S q) {x : Pt} (hx : hasB q x = true) : (b8 q).has x := by
 have k := fun α β γ => corners_hl h hx α β γ
 have c := fun i hi => b8_has h.pos (gp q i) (gp_mem hi)
 unfold B8.has at c
 refine ⟨?_, ?_, ?_, ?_, ?_, ?_, ?_, ?_⟩
 ·have := k 1 0 (-(b8 q).a) (fun i hi => by have := c i hi; unfold aff; omega)
  unfold aff at this; omega
 ·have := k (-1) 0 (b8 q).b (fun i hi => by have := c i hi; unfold aff; omega)
  unfold aff at this; omega
 ·have := k 0 1 (-(b8 q).c) (fun i hi => by have := c i hi; unfold aff; omega)
  unfold aff at this; omega
 ·have := k 0 (-1) (b8 q).d (fun i hi => by have := c i hi; unfold aff; omega)
  unfold aff at this; omega
 ·have := k 1 1 (-(b8 q).s) (fun i hi => by have := c i hi; unfold aff; omega)
  unfold aff at this; omega
 ·have := k (-1) (-1) (b8 q).t (fun i hi => by have := c i hi; unfold aff; omega)
  unfold aff at this; omega
 ·have := k 1 (-1) (-(b8 q).u) (fun i hi => by have := c i hi; unfold aff; omega)
  unfold aff at this; omega
 ·have := k (-1) 1 (b8 q).v (fun i hi => by have := c i hi; unfold aff; omega)
  unfold aff at this; omega
theorem b8_all {S : List Pt} (hne : S ≠ []) : b8 (aroundP S) = b8 S :=
 b8_ext (around_hl hne).pos (ne_len hne) (fun x hx => b8_has (ne_len hne) x ((around_hl hne).sub x hx)) fun x hx => b8_hl (around_hl hne) ((around_hl hne).has hx)
theorem b8_gen {p : List Pt} (hn : 1 ≤ p.length) (hP : ∀ x ∈ p, placeB x = true) : (-500000 ≤ (b8 p).a ∧ (b8 p).b ≤ 500000 ∧ -500000 ≤ (b8 p).c ∧ (b8 p).d ≤ 500000) ∧ (b8 p).In ∧ (∀ x ∈ (b8 p).pts, placeB x = true) ∧ Hl (b8 p).pts (eightP p) := by
 have hm := b8_met hn
 have hi := hm.in
 have bd : ∀ y ∈ p, -500000 ≤ y.1 ∧ y.1 ≤ 500000 ∧ -500000 ≤ y.2 ∧ y.2 ≤ 500000 := fun y hy => place_bd (hP y hy)
 obtain ⟨y1, m1, e1⟩ := (lo_spec fX hn).2
 obtain ⟨y2, m2, e2⟩ := (hi_spec fX hn).2
 obtain ⟨y3, m3, e3⟩ := (lo_spec fY hn).2
 obtain ⟨y4, m4, e4⟩ := (hi_spec fY hn).2
 have b1 := bd y1 m1
 have b2 := bd y2 m2
 have b3 := bd y3 m3
 have b4 := bd y4 m4
 unfold fX at e1 e2
 unfold fY at e3 e4
 have f1 : (b8 p).a = y1.1 := e1
 have f2 : (b8 p).b = y2.1 := e2
 have f3 : (b8 p).c = y3.2 := e3
 have f4 : (b8 p).d = y4.2 := e4
 refine ⟨by omega, hi, fun x hx => ?_, ?_⟩
 ·have hx := hi.pts_has x hx
  unfold B8.has at hx
  simp only [placeB, isCb, Bool.and_eq_true, decide_eq_true_eq]
  omega
 ·unfold eightP
  rw [hi.eq]
  exact around_hl (by simp [B8.pts])
end Go.Proofs.YtdfhnemhkpplbaaGreatDoor
namespace Go.Proofs.YtdfhnemhkpplbaaGreatDoor
open Go
def octL (l : List Pt) : List Pt := aroundP (b8 l).ptsP
def arC (l : List Pt) : List Pt := if l = [] then [] else if l.length ≤ 4000 ∧ (aroundP l).length ≤ 64 then aroundP l else octL l
theorem oct_spec {l : List Pt} (hne : l ≠ []) (hP : ∀ x ∈ l, placeB x = true) : Hl (b8 l).pts (octL l) ∧ validB (octL l) = true ∧ (octL l).length ≤ 8 ∧ (b8 l).In ∧ ∀ x, (b8 l).has x → hasB (octL l) x = true := by
 obtain ⟨_, hi, hpl, hh⟩ := b8_gen (ne_len hne) hP
 have hh : Hl (b8 l).pts (octL l) := hh
 have h8 : (octL l).length ≤ 8 := hl_len hh
 exact ⟨hh, hh.valid hpl (by omega), h8, hi, fun x hx => hl_lin hh fun α β γ h => B8.lin hx α β γ h⟩
def linIn (ps : List Pt) (x : Pt) : Prop := ∀ α β γ : Int, (∀ y ∈ ps, 0 ≤ aff α β γ y) → 0 ≤ aff α β γ x
theorem lin_b8 {l : List Pt} (hne : l ≠ []) {x : Pt} (hx : linIn l x) : (b8 l).has x := by
 have c := b8_has (ne_len hne)
 unfold B8.has at c
 refine ⟨?_, ?_, ?_, ?_, ?_, ?_, ?_, ?_⟩
 ·have := hx 1 0 (-(b8 l).a) (fun y hy => by have := c y hy; unfold aff; omega)
  unfold aff at this; omega
 ·have := hx (-1) 0 (b8 l).b (fun y hy => by have := c y hy; unfold aff; omega)
  unfold aff at this; omega
 ·have := hx 0 1 (-(b8 l).c) (fun y hy => by have := c y hy; unfold aff; omega)
  unfold aff at this; omega
 ·have := hx 0 (-1) (b8 l).d (fun y hy => by have := c y hy; unfold aff; omega)
  unfold aff at this; omega
 ·have := hx 1 1 (-(b8 l).s) (fun y hy => by have := c y hy; unfold aff; omega)
  unfold aff at this; omega
 ·have := hx (-1) (-1) (b8 l).t (fun y hy => by have := c y hy; unfold aff; omega)
  unfold aff at this; omega
 ·have := hx 1 (-1) (-(b8 l).u) (fun y hy => by have := c y hy; unfold aff; omega)
  unfold aff at this; omega
 ·have := hx (-1) 1 (b8 l).v (fun y hy => by have := c y hy; unfold aff; omega)
  unfold aff at this; omega
theorem lin_ne {l : List Pt} {x : Pt} (hx : linIn l x) : l ≠ [] := fun e => by
 have := hx 0 0 (-1) (fun y hy => by rw [e] at hy; cases hy)
 unfold aff at this; omega
theorem arC_valid {l : List Pt} (hne : l ≠ []) (hP : ∀ x ∈ l, placeB x = true) : validB (arC l) = true := by
 unfold arC
 rw [if_neg hne]
 split
 ·rename_i h; exact valid_small hP hne h.2
 ·exact (oct_spec hne hP).2.1
theorem arC_has {l : List Pt} (hP : ∀ x ∈ l, placeB x = true) {x : Pt} (hx : linIn l x) : hasB (arC l) x = true := by
 have hne := lin_ne hx
 unfold arC
 rw [if_neg hne]
 split
 ·exact hl_lin (around_hl hne) hx
 ·exact (oct_spec hne hP).2.2.2.2 x (lin_b8 hne hx)
theorem arC_b8 {l : List Pt} (hne : l ≠ []) (hP : ∀ x ∈ l, placeB x = true) : b8 (arC l) = b8 l := by
 unfold arC
 rw [if_neg hne]
 split
 ·exact b8_all hne
 ·obtain ⟨h1, h2, _, h4, h5⟩ := oct_spec hne hP
  exact b8_ext (len_one h2).1 (ne_len hne) (fun x hx => h4.pts_has x (h1.sub x hx)) fun x hx => has_b8 h2 (h5 x (b8_has (ne_len hne) x hx))
theorem arC_parts {l A B : List Pt} (hA : A ≠ []) (hB : B ≠ []) (hl : l = A ++ B) (hP : ∀ x ∈ l, placeB x = true) :
  validB (arC A) = true ∧ validB (arC B) = true ∧ validB (arC (eightP (arC A) ++ eightP (arC B))) = true ∧ eightP (arC (eightP (arC A) ++ eightP (arC B))) = octL l ∧ eightP (arC A) ++ eightP (arC B) ≠ [] ∧ (∀ x ∈ eightP (arC A) ++ eightP (arC B), placeB x = true) ∧ (eightP (arC A) ++ eightP (arC B)).length ≤ 16 := by
 have pA : ∀ x ∈ A, placeB x = true := fun x hx => hP x (by rw [hl]; exact List.mem_append.2 (.inl hx))
 have pB : ∀ x ∈ B, placeB x = true := fun x hx => hP x (by rw [hl]; exact List.mem_append.2 (.inr hx))
 have vA := arC_valid hA pA
 have vB := arC_valid hB pB
 obtain ⟨_, a2, a3, a4, _⟩ := eight_spec vA
 obtain ⟨_, b2, b3, b4, _⟩ := eight_spec vB
 have hne : eightP (arC A) ++ eightP (arC B) ≠ [] := fun e => by
  have := (len_one a2).1
  have e := congrArg List.length e
  rw [List.length_append] at e
  simp only [List.length_nil] at e
  omega
 have hpl : ∀ x ∈ eightP (arC A) ++ eightP (arC B), placeB x = true := fun x hx => by
  rcases List.mem_append.1 hx with hx | hx
  ·exact valid_mem a2 x hx
  ·exact valid_mem b2 x hx
 have hlne : l ≠ [] := fun e => by rw [hl] at e; exact hA (List.append_eq_nil_iff.1 e).1
 refine ⟨vA, vB, arC_valid hne hpl, ?_, hne, hpl, by rw [List.length_append]; omega⟩
 show aroundP (b8 (arC (eightP (arC A) ++ eightP (arC B)))).ptsP = aroundP (b8 l).ptsP
 rw [arC_b8 hne hpl]
 have e : b8 (eightP (arC A) ++ eightP (arC B)) = b8 l := by
  have eA : b8 (eightP (arC A)) = b8 A := by rw [a4, arC_b8 hA pA]
  have eB : b8 (eightP (arC B)) = b8 B := by rw [b4, arC_b8 hB pB]
  refine b8_ext (ne_len hne) (ne_len hlne) (fun x hx => ?_) fun x hx => ?_
  ·rcases List.mem_append.1 hx with hx | hx
   ·refine b8_mono (ne_len hA) (ne_len hlne) (fun z hz => b8_has (ne_len hlne) z (by rw [hl]; exact List.mem_append.2 (.inl hz))) ?_
    rw [← eA]; exact b8_has (len_one a2).1 x hx
   ·refine b8_mono (ne_len hB) (ne_len hlne) (fun z hz => b8_has (ne_len hlne) z (by rw [hl]; exact List.mem_append.2 (.inr hz))) ?_
    rw [← eB]; exact b8_has (len_one b2).1 x hx
  ·rw [hl] at hx
   rcases List.mem_append.1 hx with hx | hx
   ·refine b8_mono (len_one a2).1 (ne_len hne) (fun z hz => b8_has (ne_len hne) z (List.mem_append.2 (.inl hz))) ?_
    rw [eA]; exact b8_has (ne_len hA) x hx
   ·refine b8_mono (len_one b2).1 (ne_len hne) (fun z hz => b8_has (ne_len hne) z (List.mem_append.2 (.inr hz))) ?_
    rw [eB]; exact b8_has (ne_len hB) x hx
 rw [e]
theorem arC_congr {l m : List Pt} (h : ∀ x, x ∈ l ↔ x ∈ m) (hl : l.length = m.length) : arC l = arC m := by
 by_cases e : l = []
 ·subst e
  have : m = [] := List.length_eq_zero_iff.1 hl.symm
  rw [this]
 have e2 : m ≠ [] := fun e' => e (List.length_eq_zero_iff.1 (by rw [hl, e']; rfl))
 have ha : aroundP l = aroundP m := (around_eq ((around_hl e2).congr fun x => h x))
 have hb : b8 l = b8 m := b8_ext (ne_len e) (ne_len e2) (fun x hx => b8_has (ne_len e2) x ((h x).1 hx)) fun x hx => b8_has (ne_len e) x ((h x).2 hx)
 unfold arC octL
 rw [if_neg e, if_neg e2, ha, hb, hl]
end Go.Proofs.YtdfhnemhkpplbaaGreatDoor
namespace Go.Proofs.YtdfhnemhkpplbaaGreatDoor
open Go
def ovr (A B C : Int) (x : Pt) : Int := A * x.1 + B * x.2 - C
def keepL (p : List Pt) (A B C : Int) (i : Nat) : List Pt := (if ovr A B C (gp p i) ≤ 0 then [gp p i] else []) ++ (if crossesB (ovr A B C (gp p i)) (ovr A B C (nx p i)) = true then frameP (gp p i) (nx p i) (ovr A B C (gp p i)) (ovr A B C (nx p i)) else [])
def cutL (p : List Pt) (A B C : Int) (k : Nat) : List Pt := (List.range k).flatMap (keepL p A B C)
def cutA (p : List Pt) (A B C : Int) : List Pt := cutL p A B C p.length
theorem cutL_step (p : List Pt) (A B C : Int) (k : Nat) : cutL p A B C (k + 1) = cutL p A B C k ++ keepL p A B C k := by unfold cutL; rw [List.range_succ, List.flatMap_append]; simp
theorem mem_cutA {p : List Pt} {A B C : Int} {y : Pt} : y ∈ cutA p A B C ↔ ∃ i, i < p.length ∧ y ∈ keepL p A B C i := by unfold cutA cutL; simp only [List.mem_flatMap, List.mem_range]
theorem mem_keepL {p : List Pt} {A B C : Int} {i : Nat} {y : Pt} : y ∈ keepL p A B C i ↔ (ovr A B C (gp p i) ≤ 0 ∧ y = gp p i) ∨ (crossesB (ovr A B C (gp p i)) (ovr A B C (nx p i)) = true ∧ y ∈ frameP (gp p i) (nx p i) (ovr A B C (gp p i)) (ovr A B C (nx p i))) := by
 unfold keepL
 rw [List.mem_append]
 constructor
 ·rintro (h | h)
  ·split at h
   ·rename_i g; exact .inl ⟨g, by simpa using h⟩
   ·cases h
  ·split at h
   ·rename_i g; exact .inr ⟨g, h⟩
   ·cases h
 ·rintro (⟨g, rfl⟩ | ⟨g, h⟩)
  ·exact .inl (by rw [if_pos g]; simp)
  ·exact .inr (by rw [if_pos g]; exact h)
theorem keepL_len (p : List Pt) (A B C : Int) (i : Nat) : (keepL p A B C i).length ≤ 5 := by
 unfold keepL
 rw [List.length_append]
 split <;> split <;> simp [frameP]
theorem cutL_len (p : List Pt) (A B C : Int) : ∀ k, (cutL p A B C k).length ≤ 5 * k
 | 0 => by simp [cutL]
 | k + 1 => by
  have := cutL_len p A B C k
  have := keepL_len p A B C k
  rw [cutL_step, List.length_append]; omega
theorem cut_in {p : List Pt} (hp : validB p = true) {A B C : Int} (hAB : ¬ (A = 0 ∧ B = 0)) {x : Pt} (hx : hasB p x = true) (hg : ovr A B C x ≤ 0) : linIn (cutA p A B C) x := by
 intro α β γ hall
 refine Int.not_lt.1 fun hl => ?_
 refine cut_neg (f := linI α β γ) hp (A := A) (B := B) (C := C) hAB (fun y hy hg' => ?_) (fun i hi hc r hr => ?_) hx hg ?_
 ·obtain ⟨i, hi, rfl⟩ := mem_gp hy
  have := linI_nonneg.2 (hall _ (mem_cutA.2 ⟨i, hi, mem_keepL.2 (.inl ⟨hg', rfl⟩)⟩))
  exact Rat.not_lt.2 this
 ·have := frame_lin (α := α) (β := β) (γ := γ) hc hr fun y hy => hall _ (mem_cutA.2 ⟨i, hi, mem_keepL.2 (.inr ⟨hc, hy⟩)⟩)
  exact Rat.not_lt.2 this
 ·rw [linI_at]
  have : ((aff α β γ x : Int) : Rat) < ((0 : Int) : Rat) := by exact_mod_cast hl
  exact_mod_cast this
theorem cut_box {p : List Pt} {A B C m1 M1 m2 M2 : Int} (hb : ∀ x ∈ p, m1 ≤ x.1 ∧ x.1 ≤ M1 ∧ m2 ≤ x.2 ∧ x.2 ≤ M2) : ∀ y ∈ cutA p A B C, m1 ≤ y.1 ∧ y.1 ≤ M1 ∧ m2 ≤ y.2 ∧ y.2 ≤ M2 := by
 intro y hy
 obtain ⟨i, hi, hy⟩ := mem_cutA.1 hy
 rcases mem_keepL.1 hy with ⟨_, rfl⟩ | ⟨hc, hy⟩
 ·exact hb _ (gp_mem hi)
 ·exact frame_box hc hy (hb _ (gp_mem hi)) (hb _ (nx_mem hi))
theorem place_box {x : Pt} : placeB x = true ↔ -500000 ≤ x.1 ∧ x.1 ≤ 500000 ∧ -500000 ≤ x.2 ∧ x.2 ≤ 500000 := by
 simp only [placeB, isCb, Bool.and_eq_true, decide_eq_true_eq]; omega
theorem cut_place {p : List Pt} (hp : validB p = true) (A B C : Int) : ∀ y ∈ cutA p A B C, placeB y = true := fun y hy =>
 place_box.2 (cut_box (fun x hx => place_box.1 (valid_mem hp x hx)) y hy)
def cellX (p q : List Pt) (i j : Nat) : List Pt := if crossIJ p q i j = true then frameP (gp q j) (nx q j) (crossP (gp p i) (nx p i) (gp q j)) (crossP (gp p i) (nx p i) (nx q j)) else []
def rowX (p q : List Pt) (i k : Nat) : List Pt := (List.range k).flatMap (cellX p q i)
def crosX (p q : List Pt) (k : Nat) : List Pt := (List.range k).flatMap fun i => rowX p q i q.length
def crosA (p q : List Pt) : List Pt := crosX p q p.length
def cornA (p q : List Pt) : List Pt := p.filter (hasB q)
def sharA (p q : List Pt) : List Pt := cornA p q ++ (cornA q p ++ crosA p q)
theorem rowX_step (p q : List Pt) (i k : Nat) : rowX p q i (k + 1) = rowX p q i k ++ cellX p q i k := by unfold rowX; rw [List.range_succ, List.flatMap_append]; simp
theorem crosX_step (p q : List Pt) (k : Nat) : crosX p q (k + 1) = crosX p q k ++ rowX p q k q.length := by unfold crosX; rw [List.range_succ, List.flatMap_append]; simp
theorem mem_crosA {p q : List Pt} {y : Pt} : y ∈ crosA p q ↔ ∃ i j, i < p.length ∧ j < q.length ∧ crossIJ p q i j = true ∧ y ∈ frameP (gp q j) (nx q j) (crossP (gp p i) (nx p i) (gp q j)) (crossP (gp p i) (nx p i) (nx q j)) := by
 unfold crosA crosX rowX
 simp only [List.mem_flatMap, List.mem_range, cellX]
 constructor
 ·rintro ⟨i, hi, j, hj, h⟩
  split at h
  ·rename_i g; exact ⟨i, j, hi, hj, g, h⟩
  ·cases h
 ·rintro ⟨i, j, hi, hj, g, h⟩
  exact ⟨i, hi, j, hj, by rw [if_pos g]; exact h⟩
theorem cellX_len (p q : List Pt) (i j : Nat) : (cellX p q i j).length = if crossIJ p q i j = true then 4 else 0 := by
 unfold cellX; split <;> rfl
theorem rowX_len (p q : List Pt) (i : Nat) : ∀ k, (rowX p q i k).length ≤ 4 * k
 | 0 => by simp [rowX]
 | k + 1 => by
  have := rowX_len p q i k
  have e := cellX_len p q i k
  rw [rowX_step, List.length_append, e]
  split <;> omega
theorem crosX_len (p q : List Pt) (hq : q.length ≤ 64) : ∀ k, (crosX p q k).length ≤ 256 * k
 | 0 => by simp [crosX]
 | k + 1 => by
  have := crosX_len p q hq k
  have := rowX_len p q k q.length
  rw [crosX_step, List.length_append]; omega
theorem mem_cornA {p q : List Pt} {y : Pt} : y ∈ cornA p q ↔ y ∈ p ∧ hasB q y = true := by unfold cornA; exact List.mem_filter
theorem mem_sharA {p q : List Pt} {y : Pt} : y ∈ sharA p q ↔ (y ∈ p ∧ hasB q y = true) ∨ (y ∈ q ∧ hasB p y = true) ∨ y ∈ crosA p q := by
 unfold sharA; rw [List.mem_append, List.mem_append, mem_cornA, mem_cornA]
theorem cross_frame {p q : List Pt} {i j : Nat} (hc : crossIJ p q i j = true) : frameP (gp q j) (nx q j) (crossP (gp p i) (nx p i) (gp q j)) (crossP (gp p i) (nx p i) (nx q j)) = frameP (gp p i) (nx p i) (crossP (gp q j) (nx q j) (gp p i)) (crossP (gp q j) (nx q j) (nx p i)) := by
 unfold crossIJ at hc
 rw [Bool.and_eq_true] at hc
 exact frame_same hc.1 hc.2
theorem crosA_box {p q : List Pt} {m1 M1 m2 M2 : Int} (hb : ∀ x ∈ q, m1 ≤ x.1 ∧ x.1 ≤ M1 ∧ m2 ≤ x.2 ∧ x.2 ≤ M2) : ∀ y ∈ crosA p q, m1 ≤ y.1 ∧ y.1 ≤ M1 ∧ m2 ≤ y.2 ∧ y.2 ≤ M2 := by
 intro y hy
 obtain ⟨i, j, hi, hj, hc, hy⟩ := mem_crosA.1 hy
 unfold crossIJ at hc
 rw [Bool.and_eq_true] at hc
 exact frame_box hc.1 hy (hb _ (gp_mem hj)) (hb _ (nx_mem hj))
theorem crosA_swap {p q : List Pt} {y : Pt} : y ∈ crosA p q ↔ y ∈ crosA q p := by
 have one : ∀ {p q : List Pt}, y ∈ crosA p q → y ∈ crosA q p := fun {p q} h => by
  obtain ⟨i, j, hi, hj, hc, hy⟩ := mem_crosA.1 h
  refine mem_crosA.2 ⟨j, i, hj, hi, by rw [crossIJ_comm]; exact hc, ?_⟩
  rw [cross_frame hc] at hy; exact hy
 exact ⟨one, one⟩
theorem has_box {p : List Pt} (hp : validB p = true) {m1 M1 m2 M2 : Int} (hb : ∀ x ∈ p, m1 ≤ x.1 ∧ x.1 ≤ M1 ∧ m2 ≤ x.2 ∧ x.2 ≤ M2) {y : Pt} (hy : hasB p y = true) : m1 ≤ y.1 ∧ y.1 ≤ M1 ∧ m2 ≤ y.2 ∧ y.2 ≤ M2 := by
 have k := fun α β γ => at_corners hp hy α β γ
 have c := fun i (hi : i < p.length) => hb _ (gp_mem hi)
 have k1 := k 1 0 (-m1) (fun i hi => by have := c i hi; unfold aff; omega)
 have k2 := k (-1) 0 M1 (fun i hi => by have := c i hi; unfold aff; omega)
 have k3 := k 0 1 (-m2) (fun i hi => by have := c i hi; unfold aff; omega)
 have k4 := k 0 (-1) M2 (fun i hi => by have := c i hi; unfold aff; omega)
 unfold aff at *
 omega
theorem shar_box {p q : List Pt} (hp : validB p = true) {m1 M1 m2 M2 : Int} (hb : ∀ x ∈ p, m1 ≤ x.1 ∧ x.1 ≤ M1 ∧ m2 ≤ x.2 ∧ x.2 ≤ M2) : ∀ y, (y ∈ sharA p q ∨ y ∈ sharA q p) → m1 ≤ y.1 ∧ y.1 ≤ M1 ∧ m2 ≤ y.2 ∧ y.2 ≤ M2 := by
 intro y hy
 have : (y ∈ p ∧ hasB q y = true) ∨ (y ∈ q ∧ hasB p y = true) ∨ y ∈ crosA q p := by
  rcases hy with hy | hy
  ·rcases mem_sharA.1 hy with h | h | h
   ·exact .inl h
   ·exact .inr (.inl h)
   ·exact .inr (.inr (crosA_swap.1 h))
  ·rcases mem_sharA.1 hy with h | h | h
   ·exact .inr (.inl h)
   ·exact .inl h
   ·exact .inr (.inr h)
 rcases this with h | h | h
 ·exact hb y h.1
 ·exact has_box hp hb h.2
 ·exact crosA_box hb y h
theorem shar_place {p q : List Pt} (hp : validB p = true) : ∀ y ∈ sharA p q, placeB y = true := fun y hy =>
 place_box.2 (shar_box hp (fun x hx => place_box.1 (valid_mem hp x hx)) y (.inl hy))
end Go.Proofs.YtdfhnemhkpplbaaGreatDoor
namespace Go.Proofs.YtdfhnemhkpplbaaGreatDoor
open Go
structure FlowS where
 x : Int
 y : Int
 s : Int
 ul : Int
 uh : Int
 vl : Int
 vh : Int
 hl : Int
 hh : Int
def zeroF : FlowS := ⟨0, 0, 0, 0, 0, 0, 0, 0, 0⟩
def gf (l : List FlowS) (i : Nat) : FlowS := l.getD i zeroF
end Go.Proofs.YtdfhnemhkpplbaaGreatDoor
namespace Go.Proofs.YtdfhnemhkpplbaaGreatDoor
open Go Go.V Go.RowKit
theorem div_spec {a b : Int} (hb : 0 < b) : (a.tmod b < 0 → a.tdiv b - 1 = a / b ∧ a.tmod b + b = a % b) ∧ (0 ≤ a.tmod b → a.tdiv b = a / b ∧ a.tmod b = a % b) := by
 have h1 := Int.tmod_add_mul_tdiv a b
 have h2 := Int.tmod_lt_of_pos a hb
 have h3 : -b < a.tmod b := by
  by_cases ha : 0 ≤ a
  ·have := Int.tmod_nonneg b ha; omega
  ·have h := Int.tmod_lt_of_pos (-a) hb
   rw [Int.neg_tmod] at h; omega
 refine ⟨fun h => ?_, fun h => ?_⟩
 ·have := (Int.ediv_emod_unique hb (a := a) (r := a.tmod b + b) (q := a.tdiv b - 1)).2 ⟨by rw [Int.mul_sub]; omega, by omega, by omega⟩
  exact ⟨this.1.symm, this.2.symm⟩
 ·have := (Int.ediv_emod_unique hb (a := a) (r := a.tmod b) (q := a.tdiv b)).2 ⟨by omega, by omega, by omega⟩
  exact ⟨this.1.symm, this.2.symm⟩
end Go.Proofs.YtdfhnemhkpplbaaGreatDoor
