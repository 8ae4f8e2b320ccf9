/- Plain geometry: what two polygons have in common is in the hull of the corners and crossings that they share; what a half-plane leaves of one. -/
import Derived.Test.YtcdlplobniogpaaGreatHa7
set_option linter.unusedVariables false
set_option linter.unusedSimpArgs false
namespace Go.Proofs.YtcdlplobniogpaaGreat
open Go
def conQ (p : List Pt) : List Lin := if p.length = 2 then conS (gp p 0) (gp p 1) else conP p
theorem seg_has {a b x : Pt} (hab : a ≠ b) : (decide (crossP a b x = 0) && betwB a b x) = true ↔ ∀ c ∈ conS a b, 0 ≤ c.at (q2 x) := by
 have al : (alongQ a b).at (q2 x) = (((b.1 - a.1) * (x.1 - a.1) + (b.2 - a.2) * (x.2 - a.2) : Int) : Rat) := by unfold alongQ Lin.at q2; push_cast; grind
 have al' : (alongQ b a).at (q2 x) = (((a.1 - b.1) * (x.1 - b.1) + (a.2 - b.2) * (x.2 - b.2) : Int) : Rat) := by unfold alongQ Lin.at q2; push_cast; grind
 have fl : crossP b a x = -crossP a b x := cross_flip _ _ _
 have hall : (∀ c ∈ conS a b, 0 ≤ c.at (q2 x)) ↔ (crossP a b x = 0 ∧ 0 ≤ (b.1 - a.1) * (x.1 - a.1) + (b.2 - a.2) * (x.2 - a.2) ∧ 0 ≤ (a.1 - b.1) * (x.1 - b.1) + (a.2 - b.2) * (x.2 - b.2)) := by
  simp only [conS, List.mem_cons, List.not_mem_nil, or_false, forall_eq_or_imp, forall_eq]
  rw [sideQ_nonneg, sideQ_nonneg, al, al', castQ_nonneg, castQ_nonneg, fl]
  constructor
  ·rintro ⟨h1, h2, h3, h4⟩; exact ⟨by omega, h3, h4⟩
  ·rintro ⟨h1, h3, h4⟩; exact ⟨by omega, by omega, h3, h4⟩
 rw [hall]
 simp only [betwB, Bool.and_eq_true, decide_eq_true_eq]
 have sg : ∀ {m n : Int}, (0 ≤ m → 0 ≤ n) → (m ≤ 0 → n ≤ 0) → 0 ≤ m * n := fun {m n} g1 g2 => by
  rcases Int.le_total 0 m with h | h
  ·exact Int.mul_nonneg h (g1 h)
  ·have := Int.mul_nonneg (show 0 ≤ -m by omega) (show 0 ≤ -n by have := g2 h; omega)
   rwa [Int.neg_mul_neg] at this
 constructor
 ·rintro ⟨hz, b1, b2, b3, b4⟩
  have m1 := sg (m := b.1 - a.1) (n := x.1 - a.1) (by omega) (by omega)
  have m2 := sg (m := b.2 - a.2) (n := x.2 - a.2) (by omega) (by omega)
  have m3 := sg (m := a.1 - b.1) (n := x.1 - b.1) (by omega) (by omega)
  have m4 := sg (m := a.2 - b.2) (n := x.2 - b.2) (by omega) (by omega)
  exact ⟨hz, by omega, by omega⟩
 ·rintro ⟨hz, h3, h4⟩
  refine ⟨hz, ?_⟩
  -- |u|² y.1 = u.1 (u · y), and so on
  have hL : 0 < (b.1 - a.1) * (b.1 - a.1) + (b.2 - a.2) * (b.2 - a.2) := by
   have := lenQ_pos hab
   have e : lenQ a b = (((b.1 - a.1) * (b.1 - a.1) + (b.2 - a.2) * (b.2 - a.2) : Int) : Rat) := by unfold lenQ; push_cast; rfl
   rw [e] at this; exact castQ_pos.1 this
  have hz' : (b.1 - a.1) * (x.2 - a.2) = (b.2 - a.2) * (x.1 - a.1) := by unfold crossP cross at hz; omega
  have e1 : ((b.1 - a.1) * (b.1 - a.1) + (b.2 - a.2) * (b.2 - a.2)) * (x.1 - a.1) = (b.1 - a.1) * ((b.1 - a.1) * (x.1 - a.1) + (b.2 - a.2) * (x.2 - a.2)) := by grind
  have e2 : ((b.1 - a.1) * (b.1 - a.1) + (b.2 - a.2) * (b.2 - a.2)) * (x.2 - a.2) = (b.2 - a.2) * ((b.1 - a.1) * (x.1 - a.1) + (b.2 - a.2) * (x.2 - a.2)) := by grind
  have e3 : ((b.1 - a.1) * (b.1 - a.1) + (b.2 - a.2) * (b.2 - a.2)) * (b.1 - x.1) = (b.1 - a.1) * ((a.1 - b.1) * (x.1 - b.1) + (a.2 - b.2) * (x.2 - b.2)) := by grind
  have e4 : ((b.1 - a.1) * (b.1 - a.1) + (b.2 - a.2) * (b.2 - a.2)) * (b.2 - x.2) = (b.2 - a.2) * ((a.1 - b.1) * (x.1 - b.1) + (a.2 - b.2) * (x.2 - b.2)) := by grind
  generalize (b.1 - a.1) * (b.1 - a.1) + (b.2 - a.2) * (b.2 - a.2) = L at *
  generalize (b.1 - a.1) * (x.1 - a.1) + (b.2 - a.2) * (x.2 - a.2) = S at *
  generalize (a.1 - b.1) * (x.1 - b.1) + (a.2 - b.2) * (x.2 - b.2) = T at *
  have sgn : ∀ {u y S : Int}, 0 ≤ S → L * y = u * S → (0 ≤ u → 0 ≤ y) ∧ (u ≤ 0 → y ≤ 0) := fun {u y S} hS e => by
   refine ⟨fun hu => pos_of_mul hL (by rw [e]; exact Int.mul_nonneg hu hS), fun hu => ?_⟩
   have := Int.mul_nonneg (show 0 ≤ -u by omega) hS
   rw [Int.neg_mul] at this
   have := pos_of_mul (y := -y) hL (by rw [Int.mul_neg]; omega)
   omega
  have g1 := sgn h3 e1
  have g2 := sgn h3 e2
  have g3 := sgn h4 e3
  have g4 := sgn h4 e4
  omega
theorem con_has {p : List Pt} (h : validB p = true) (h2 : 2 ≤ p.length) {x : Pt} : hasB p x = true ↔ ∀ c ∈ conQ p, 0 ≤ c.at (q2 x) := by
 unfold hasB conQ
 rw [if_neg (by omega)]
 by_cases e : p.length = 2
 ·rw [if_pos e, if_pos e]
  exact seg_has (corner_ne h (i := 1) (k := 0) (by omega) (by omega) (by omega))
 ·rw [if_neg e, if_neg e]
  constructor
  ·intro hx c hc
   obtain ⟨i, hi, rfl⟩ := conP_of hc
   have := all_iff.1 hx i hi
   simp only [sideB, decide_eq_true_eq] at this
   exact sideQ_nonneg.2 this
  ·intro hx
   refine all_true fun i hi => ?_
   simp only [sideB, decide_eq_true_eq]
   exact sideQ_nonneg.1 (hx _ (conP_mem hi))
theorem tight {p : List Pt} (h : validB p = true) (h2 : 2 ≤ p.length) {w : P2} (hw : ∀ c ∈ conQ p, 0 ≤ c.at w) {c : Lin} (hc : c ∈ conQ p) (h0 : c.at w = 0) :
  ∃ j, j < p.length ∧ ∃ r, 0 ≤ r ∧ r ≤ 1 ∧ w = segQ (gp p j) (nx p j) r ∧ (r = 0 ∨ r = 1 ∨ ∀ v, crQ (vecQ (gp p j) (nx p j)) v = 0 → c.dir v = 0) := by
 unfold conQ at hw hc
 by_cases e : p.length = 2
 ·rw [if_pos e] at hw hc
  have hne := corner_ne h (i := 1) (k := 0) (by omega) (by omega) (by omega)
  obtain ⟨r, r1, r2, rfl⟩ := seg_in hne hw
  have en : nx p 0 = gp p 1 := by unfold nx; rw [Nat.mod_eq_of_lt (by omega)]
  refine ⟨0, by omega, r, r1, r2, by rw [en], ?_⟩
  rw [en]
  have hp := lenQ_pos hne
  simp only [conS, List.mem_cons, List.not_mem_nil, or_false] at hc
  rcases hc with rfl | rfl | rfl | rfl
  ·exact .inr (.inr fun v hv => by rw [sideQ_dir]; exact hv)
  ·refine .inr (.inr fun v hv => ?_)
   rw [sideQ_dir]
   unfold crQ vecQ at *
   grind
  ·rw [alongQ_seg] at h0
   rcases Rat.mul_eq_zero.1 h0 with g | g
   ·exact .inl g
   ·rw [g] at hp; exact absurd hp Rat.lt_irrefl
  ·rw [alongQ_seg'] at h0
   rcases Rat.mul_eq_zero.1 h0 with g | g
   ·exact .inr (.inl (by grind))
   ·rw [g] at hp; exact absurd hp Rat.lt_irrefl
 ·rw [if_neg e] at hw hc
  obtain ⟨j, hj, rfl⟩ := conP_of hc
  obtain ⟨r, r1, r2, hr⟩ := side_seg h (by omega) hj hw h0
  exact ⟨j, hj, r, r1, r2, hr, .inr (.inr fun v hv => by rw [sideQ_dir]; exact hv)⟩
def crossesB (s t : Int) : Bool := (decide (s < 0) && decide (0 < t)) || (decide (0 < s) && decide (t < 0))
theorem crosses_iff {s t : Int} : crossesB s t = true ↔ (s < 0 ∧ 0 < t) ∨ (0 < s ∧ t < 0) := by simp [crossesB]
theorem crosses_of {s t : Int} {r : Rat} (h0 : r ≠ 0) (h1 : r ≠ 1) (r0 : 0 ≤ r) (r1 : r ≤ 1) (h : (1 - r) * (s : Rat) + r * (t : Rat) = 0) (hne : s ≠ 0) : crossesB s t = true := by
 rw [crosses_iff]
 have p0 : 0 < r := by grind
 have p1 : 0 < 1 - r := by grind
 rcases Int.lt_or_lt_of_ne hne with g | g
 ·refine .inl ⟨g, ?_⟩
  have := Rat.mul_pos p1 (castQ_pos.2 (show 0 < -s by omega))
  push_cast at this
  refine castQ_pos.1 ?_
  refine Rat.not_le.1 fun hl => ?_
  have := Rat.mul_nonneg r0 (show 0 ≤ -(t : Rat) by grind)
  grind
 ·refine .inr ⟨g, ?_⟩
  have := Rat.mul_pos p1 (castQ_pos.2 g)
  refine Int.not_le.1 fun hl => ?_
  have := Rat.mul_nonneg r0 (castQ_nonneg.2 hl)
  grind
def crossIJ (p q : List Pt) (i j : Nat) : Bool := crossesB (crossP (gp p i) (nx p i) (gp q j)) (crossP (gp p i) (nx p i) (nx q j)) && crossesB (crossP (gp q j) (nx q j) (gp p i)) (crossP (gp q j) (nx q j) (nx p i))
theorem crossIJ_comm (p q : List Pt) (i j : Nat) : crossIJ p q i j = crossIJ q p j i := Bool.and_comm _ _
structure EndOf (p q : List Pt) (f : Lin) : Prop where
 no1 : ∀ y ∈ p, hasB q y = true → ¬ f.at (q2 y) < 0
 no2 : ∀ y ∈ q, hasB p y = true → ¬ f.at (q2 y) < 0
 no3 : ∀ i j, i < p.length → j < q.length → crossIJ p q i j = true → ∀ r s, segQ (gp p i) (nx p i) s = segQ (gp q j) (nx q j) r → ¬ f.at (segQ (gp p i) (nx p i) s) < 0
theorem EndOf.symm {p q : List Pt} {f : Lin} (h : EndOf p q f) : EndOf q p f :=
 ⟨h.no2, h.no1, fun i j hi hj hc r s e => by rw [e]; exact h.no3 j i hj hi (by rw [crossIJ_comm]; exact hc) s r e.symm⟩
theorem nx_mem {p : List Pt} {i : Nat} (hi : i < p.length) : nx p i ∈ p := gp_mem (Nat.mod_lt _ (by omega))
theorem corner_in {p : List Pt} (h : validB p = true) (h2 : 2 ≤ p.length) {y : Pt} (hy : y ∈ p) : ∀ c ∈ conQ p, 0 ≤ c.at (q2 y) := (con_has h h2).1 ((hl_of_valid h).has hy)
theorem seg_con {c : Lin} {a b : Pt} {s : Rat} (h0 : 0 ≤ s) (h1 : s ≤ 1) (ha : 0 ≤ c.at (q2 a)) (hb : 0 ≤ c.at (q2 b)) : 0 ≤ c.at (segQ a b s) := by
 rw [segQ_at]
 have := Rat.mul_nonneg (show 0 ≤ 1 - s by grind) ha
 have := Rat.mul_nonneg h0 hb
 grind
theorem end_side {p q : List Pt} (hp : validB p = true) (hq : validB q = true) (h2 : 2 ≤ p.length) (k2 : 2 ≤ q.length) {f : Lin} (E : EndOf p q f) {i : Nat} (hi : i < p.length) {s : Rat} (s0 : 0 ≤ s) (s1 : s ≤ 1)
  (hin : ∀ c ∈ conQ q, 0 ≤ c.at (segQ (gp p i) (nx p i) s)) (hf : f.at (segQ (gp p i) (nx p i) s) < 0) : False := by
 obtain ⟨t, t0, t1, hL, hft, hend⟩ := slide_seg (gp p i) (nx p i) (conQ q) f s s0 s1 hin hf
 have atA : t = 0 → False := fun e => by
  subst e
  rw [segQ_0] at hL hft
  exact E.no1 _ (gp_mem hi) ((con_has hq k2).2 hL) hft
 have atB : t = 1 → False := fun e => by
  subst e
  rw [segQ_1] at hL hft
  exact E.no1 _ (nx_mem hi) ((con_has hq k2).2 hL) hft
 rcases hend with e | e | ⟨c, hc, hc0, hcd⟩
 ·exact atA e
 ·exact atB e
 by_cases e0 : t = 0
 ·exact atA e0
 by_cases e1 : t = 1
 ·exact atB e1
 obtain ⟨j, hj, r, r0, r1, hw, hr⟩ := tight hq k2 hL hc hc0
 have inP : ∀ c ∈ conQ p, 0 ≤ c.at (segQ (gp p i) (nx p i) t) := fun c hc => seg_con t0 t1 (corner_in hp h2 (gp_mem hi) c hc) (corner_in hp h2 (nx_mem hi) c hc)
 have cA : r = 0 → False := fun e => by
  subst e
  rw [segQ_0] at hw
  rw [hw] at inP hft
  exact E.no2 _ (gp_mem hj) ((con_has hp h2).2 inP) hft
 have cB : r = 1 → False := fun e => by
  subst e
  rw [segQ_1] at hw
  rw [hw] at inP hft
  exact E.no2 _ (nx_mem hj) ((con_has hp h2).2 inP) hft
 by_cases f0 : r = 0
 ·exact cA f0
 by_cases f1 : r = 1
 ·exact cB f1
 have hpar := (hr.resolve_left f0).resolve_left f1
 have hD : crQ (vecQ (gp q j) (nx q j)) (vecQ (gp p i) (nx p i)) ≠ 0 := fun h => hcd (hpar _ h)
 -- strictly on both sides, each way
 have x1 : (1 - r) * ((crossP (gp p i) (nx p i) (gp q j) : Int) : Rat) + r * ((crossP (gp p i) (nx p i) (nx q j) : Int) : Rat) = 0 := by
  rw [← sideQ_at, ← sideQ_at, ← segQ_at, ← hw, segQ_at, sideQ_l, sideQ_r]; grind
 have x2 : (1 - t) * ((crossP (gp q j) (nx q j) (gp p i) : Int) : Rat) + t * ((crossP (gp q j) (nx q j) (nx p i) : Int) : Rat) = 0 := by
  rw [← sideQ_at, ← sideQ_at, ← segQ_at, hw, segQ_at, sideQ_l, sideQ_r]; grind
 have d1 : ((crossP (gp p i) (nx p i) (nx q j) : Int) : Rat) - ((crossP (gp p i) (nx p i) (gp q j) : Int) : Rat) = -crQ (vecQ (gp q j) (nx q j)) (vecQ (gp p i) (nx p i)) := by
  unfold crossP cross crQ vecQ; push_cast; grind
 have d2 : ((crossP (gp q j) (nx q j) (nx p i) : Int) : Rat) - ((crossP (gp q j) (nx q j) (gp p i) : Int) : Rat) = crQ (vecQ (gp q j) (nx q j)) (vecQ (gp p i) (nx p i)) := by
  unfold crossP cross crQ vecQ; push_cast; grind
 have n1 : crossP (gp p i) (nx p i) (gp q j) ≠ 0 := fun h => by
  rw [h] at x1 d1
  have : r * ((crossP (gp p i) (nx p i) (nx q j) : Int) : Rat) = 0 := by push_cast at x1; grind
  rcases Rat.mul_eq_zero.1 this with g | g
  ·exact f0 g
  ·push_cast at d1; grind
 have n2 : crossP (gp q j) (nx q j) (gp p i) ≠ 0 := fun h => by
  rw [h] at x2 d2
  have : t * ((crossP (gp q j) (nx q j) (nx p i) : Int) : Rat) = 0 := by push_cast at x2; grind
  rcases Rat.mul_eq_zero.1 this with g | g
  ·exact e0 g
  ·push_cast at d2; grind
 refine E.no3 i j hi hj ?_ r t hw hft
 unfold crossIJ
 rw [crosses_of f0 f1 r0 r1 x1 n1, crosses_of e0 e1 t0 t1 x2 n2]; rfl
theorem meet_neg {p q : List Pt} (hp : validB p = true) (hq : validB q = true) {f : Lin} (E : EndOf p q f) {x : Pt} (hx : hasB p x = true) (hy : hasB q x = true) : ¬ f.at (q2 x) < 0 := by
 intro hf
 have hl := len_one hp
 have kl := len_one hq
 have one : ∀ {p q : List Pt}, EndOf p q f → p.length = 1 → hasB p x = true → hasB q x = true → False := fun {p q} E h1 hx hy => by
  unfold hasB at hx
  rw [if_pos h1, beq_iff_eq] at hx
  exact E.no1 _ (gp_mem (show 0 < p.length by omega)) (by rw [hx]; exact hy) (by rw [hx]; exact hf)
 by_cases h1 : p.length = 1
 ·exact one E h1 hx hy
 by_cases k1 : q.length = 1
 ·exact one E.symm k1 hy hx
 have h2 : 2 ≤ p.length := by omega
 have k2 : 2 ≤ q.length := by omega
 have inP := (con_has hp h2).1 hx
 have inQ := (con_has hq k2).1 hy
 have two : ∀ {p q : List Pt}, validB p = true → validB q = true → 2 ≤ q.length → EndOf p q f → p.length = 2 → (∀ c ∈ conQ p, 0 ≤ c.at (q2 x)) → (∀ c ∈ conQ q, 0 ≤ c.at (q2 x)) → False := fun {p q} hp hq k2 E h2 inP inQ => by
  unfold conQ at inP
  rw [if_pos h2] at inP
  obtain ⟨r, r0, r1, e⟩ := seg_in (corner_ne hp (i := 1) (k := 0) (by omega) (by omega) (by omega)) inP
  have en : nx p 0 = gp p 1 := by unfold nx; rw [Nat.mod_eq_of_lt (by omega)]
  rw [← en] at e
  refine end_side hp hq (by omega) k2 E (i := 0) (by omega) r0 r1 ?_ ?_
  ·rw [← e]; exact inQ
  ·rw [← e]; exact hf
 by_cases h3 : p.length = 2
 ·exact two hp hq k2 E h3 inP inQ
 by_cases k3 : q.length = 2
 ·exact two hq hp h2 E.symm k3 inQ inP
 have cP : conQ p = conP p := by unfold conQ; rw [if_neg h3]
 have cQ : conQ q = conP q := by unfold conQ; rw [if_neg k3]
 have go : ∀ v : P2, ¬ (v.1 = 0 ∧ v.2 = 0) → f.dir v ≤ 0 → False := fun v hv hd => by
  obtain ⟨c0, hc0, hb⟩ := blocked hp (by omega) hv
  obtain ⟨t, t0, hall, c, hc, _, htight⟩ := slide_lin (conP p ++ conP q) (q2 x) v (fun c hc => by
   rcases List.mem_append.1 hc with hc | hc
   ·exact inP c (by rw [cP]; exact hc)
   ·exact inQ c (by rw [cQ]; exact hc)) ⟨c0, List.mem_append.2 (.inl hc0), hb⟩
  have hfz : f.at (mvP (q2 x) v t) < 0 := by
   rw [at_mv]
   have := Rat.mul_nonneg t0 (show 0 ≤ -f.dir v by grind)
   grind
  have aP : ∀ c ∈ conP p, 0 ≤ c.at (mvP (q2 x) v t) := fun c hc => hall c (List.mem_append.2 (.inl hc))
  have aQ : ∀ c ∈ conP q, 0 ≤ c.at (mvP (q2 x) v t) := fun c hc => hall c (List.mem_append.2 (.inr hc))
  rcases List.mem_append.1 hc with hc | hc
  ·obtain ⟨i, hi, rfl⟩ := conP_of hc
   obtain ⟨r, r0, r1, e⟩ := side_seg hp (by omega) hi aP htight
   refine end_side hp hq h2 k2 E hi r0 r1 ?_ ?_
   ·rw [← e, cQ]; exact aQ
   ·rw [← e]; exact hfz
  ·obtain ⟨i, hi, rfl⟩ := conP_of hc
   obtain ⟨r, r0, r1, e⟩ := side_seg hq (by omega) hi aQ htight
   refine end_side hq hp k2 h2 E.symm hi r0 r1 ?_ ?_
   ·rw [← e, cP]; exact aP
   ·rw [← e]; exact hfz
 by_cases hd : f.dir (1, 0) ≤ 0
 ·exact go (1, 0) (fun h => absurd h.1 (by decide)) hd
 ·refine go (-1, 0) (fun h => absurd h.1 (by decide)) ?_
  unfold Lin.dir at *
  grind
theorem cut_neg {p : List Pt} (hp : validB p = true) {A B C : Int} (hAB : ¬ (A = 0 ∧ B = 0)) {f : Lin}
  (no1 : ∀ y ∈ p, A * y.1 + B * y.2 - C ≤ 0 → ¬ f.at (q2 y) < 0)
  (no2 : ∀ i, i < p.length → crossesB (A * (gp p i).1 + B * (gp p i).2 - C) (A * (nx p i).1 + B * (nx p i).2 - C) = true → ∀ r, (1 - r) * ((A * (gp p i).1 + B * (gp p i).2 - C : Int) : Rat) + r * ((A * (nx p i).1 + B * (nx p i).2 - C : Int) : Rat) = 0 → ¬ f.at (segQ (gp p i) (nx p i) r) < 0)
  {x : Pt} (hx : hasB p x = true) (hg : A * x.1 + B * x.2 - C ≤ 0) : ¬ f.at (q2 x) < 0 := by
 intro hf
 have hl := len_one hp
 have gat : ∀ y : Pt, (⟨-A, -B, C⟩ : Lin).at (q2 y) = -((A * y.1 + B * y.2 - C : Int) : Rat) := fun y => by unfold Lin.at q2; push_cast; grind
 by_cases h1 : p.length = 1
 ·unfold hasB at hx
  rw [if_pos h1, beq_iff_eq] at hx
  exact no1 _ (gp_mem (show 0 < p.length by omega)) (by rw [hx]; exact hg) (by rw [hx]; exact hf)
 have h2 : 2 ≤ p.length := by omega
 have inP := (con_has hp h2).1 hx
 have side : ∀ i, i < p.length → ∀ s, 0 ≤ s → s ≤ 1 → 0 ≤ (⟨-A, -B, C⟩ : Lin).at (segQ (gp p i) (nx p i) s) → f.at (segQ (gp p i) (nx p i) s) < 0 → False := fun i hi s s0 s1 hgs hfs => by
  obtain ⟨t, t0, t1, hL, hft, hend⟩ := slide_seg (gp p i) (nx p i) [⟨-A, -B, C⟩] f s s0 s1 (fun c hc => by rw [List.mem_singleton.1 hc]; exact hgs) hfs
  have hg' := hL _ (List.mem_singleton.2 rfl)
  have atA : t = 0 → False := fun e => by
   subst e
   rw [segQ_0] at hg' hft
   rw [gat] at hg'
   refine no1 _ (gp_mem hi) ?_ hft
   have : ((A * (gp p i).1 + B * (gp p i).2 - C : Int) : Rat) ≤ ((0 : Int) : Rat) := by grind
   exact_mod_cast this
  have atB : t = 1 → False := fun e => by
   subst e
   rw [segQ_1] at hg' hft
   rw [gat] at hg'
   refine no1 _ (nx_mem hi) ?_ hft
   have : ((A * (nx p i).1 + B * (nx p i).2 - C : Int) : Rat) ≤ ((0 : Int) : Rat) := by grind
   exact_mod_cast this
  rcases hend with e | e | ⟨c, hc, hc0, hcd⟩
  ·exact atA e
  ·exact atB e
  by_cases e0 : t = 0
  ·exact atA e0
  by_cases e1 : t = 1
  ·exact atB e1
  obtain rfl := List.mem_singleton.1 hc
  rw [segQ_at, gat, gat] at hc0
  have hz : (1 - t) * ((A * (gp p i).1 + B * (gp p i).2 - C : Int) : Rat) + t * ((A * (nx p i).1 + B * (nx p i).2 - C : Int) : Rat) = 0 := by grind
  have hne : A * (gp p i).1 + B * (gp p i).2 - C ≠ 0 := fun h => by
   rw [h] at hz
   have : t * ((A * (nx p i).1 + B * (nx p i).2 - C : Int) : Rat) = 0 := by push_cast at hz; grind
   rcases Rat.mul_eq_zero.1 this with g | g
   ·exact e0 g
   ·refine hcd ?_
    have h' := castQ_zero.2 h
    unfold Lin.dir vecQ
    push_cast at g h'
    grind
  exact no2 i hi (crosses_of e0 e1 t0 t1 hz hne) t hz hft
 have hgx : 0 ≤ (⟨-A, -B, C⟩ : Lin).at (q2 x) := by
  rw [gat]
  have : ((A * x.1 + B * x.2 - C : Int) : Rat) ≤ ((0 : Int) : Rat) := by exact_mod_cast hg
  grind
 by_cases h3 : p.length = 2
 ·unfold conQ at inP
  rw [if_pos h3] at inP
  obtain ⟨r, r0, r1, e⟩ := seg_in (corner_ne hp (i := 1) (k := 0) (by omega) (by omega) (by omega)) inP
  have en : nx p 0 = gp p 1 := by unfold nx; rw [Nat.mod_eq_of_lt (by omega)]
  rw [← en] at e
  refine side 0 (by omega) r r0 r1 ?_ ?_
  ·rw [← e]; exact hgx
  ·rw [← e]; exact hf
 have cP : conQ p = conP p := by unfold conQ; rw [if_neg h3]
 have go : ∀ v : P2, ¬ (v.1 = 0 ∧ v.2 = 0) → (⟨-A, -B, C⟩ : Lin).dir v = 0 → f.dir v ≤ 0 → False := fun v hv hgd hd => by
  obtain ⟨c0, hc0, hb⟩ := blocked hp (by omega) hv
  obtain ⟨t, t0, hall, c, hc, _, htight⟩ := slide_lin (conP p) (q2 x) v (fun c hc => inP c (by rw [cP]; exact hc)) ⟨c0, hc0, hb⟩
  obtain ⟨i, hi, rfl⟩ := conP_of hc
  obtain ⟨r, r0, r1, e⟩ := side_seg hp (by omega) hi hall htight
  refine side i hi r r0 r1 ?_ ?_
  ·rw [← e, at_mv, hgd]; grind
  ·rw [← e, at_mv]
   have := Rat.mul_nonneg t0 (show 0 ≤ -f.dir v by grind)
   grind
 have hv : ¬ ((B : Rat) = 0 ∧ -(A : Rat) = 0) := fun h => hAB ⟨castQ_zero.1 (by grind), castQ_zero.1 h.1⟩
 by_cases hd : f.dir ((B : Rat), -(A : Rat)) ≤ 0
 ·exact go (B, -A) hv (by unfold Lin.dir; grind) hd
 ·refine go (-B, A) (fun h => hv ⟨by have := h.1; simp only at this; grind, by have := h.2; simp only at this; grind⟩) (by unfold Lin.dir; grind) ?_
  unfold Lin.dir at *
  grind
end Go.Proofs.YtcdlplobniogpaaGreat
namespace Go.Proofs.YtcdlplobniogpaaGreat
open Go
def flr (a b : Int) : Int := if 0 < b then a / b else (-a) / (-b)
theorem flr_spec {a b : Int} (hb : b ≠ 0) {y : Rat} (h : (b : Rat) * y = a) : ((flr a b : Int) : Rat) ≤ y ∧ y < ((flr a b : Int) : Rat) + 1 := by
 have main : ∀ {a b : Int}, 0 < b → (b : Rat) * y = a → ((a / b : Int) : Rat) ≤ y ∧ y < ((a / b : Int) : Rat) + 1 := fun {a b} hb h => by
  have e := Int.mul_ediv_add_emod a b
  have r0 := Int.emod_nonneg a (show b ≠ 0 by omega)
  have r1 := Int.emod_lt_of_pos a hb
  have e' : (b : Rat) * ((a / b : Int) : Rat) + ((a % b : Int) : Rat) = (a : Rat) := by exact_mod_cast e
  have q0 := castQ_nonneg.2 r0
  have q1 : 0 < (b : Rat) - ((a % b : Int) : Rat) := by
   have := castQ_pos.2 (show 0 < b - a % b by omega)
   push_cast at this; exact this
  have hb' := castQ_pos.2 hb
  constructor
  ·have := pos_of_mulQ (t := (b : Rat)) (y := y - ((a / b : Int) : Rat)) hb' (by grind)
   grind
  ·refine Rat.not_le.1 fun hl => ?_
   have := Rat.mul_nonneg (Rat.le_of_lt hb') (show 0 ≤ y - (((a / b : Int) : Rat) + 1) by grind)
   grind
 unfold flr
 split
 ·rename_i hp; exact main hp h
 ·exact main (b := -b) (a := -a) (by omega) (by push_cast; grind)
theorem floor_unique {m n : Int} {y : Rat} (h1 : (m : Rat) ≤ y) (h2 : y < (m : Rat) + 1) (k1 : (n : Rat) ≤ y) (k2 : y < (n : Rat) + 1) : m = n := by
 have a1 : (m : Rat) < ((n + 1 : Int) : Rat) := by push_cast; grind
 have a2 : (n : Rat) < ((m + 1 : Int) : Rat) := by push_cast; grind
 have a1 : m < n + 1 := by exact_mod_cast a1
 have a2 : n < m + 1 := by exact_mod_cast a2
 omega
def lo1 (x y s t : Int) : Int := x + flr ((y - x) * s) (s - t)
def hi1 (x y s t : Int) : Int := x - flr (-((y - x) * s)) (s - t)
def frameP (a b : Pt) (s t : Int) : List Pt := [(lo1 a.1 b.1 s t, lo1 a.2 b.2 s t), (lo1 a.1 b.1 s t, hi1 a.2 b.2 s t), (hi1 a.1 b.1 s t, lo1 a.2 b.2 s t), (hi1 a.1 b.1 s t, hi1 a.2 b.2 s t)]
theorem crosses_ne {s t : Int} (h : crossesB s t = true) : s - t ≠ 0 := by
 rcases crosses_iff.1 h with ⟨h1, h2⟩ | ⟨h1, h2⟩ <;> omega
theorem cut_at {s t : Int} (h : crossesB s t = true) : ∃ r : Rat, 0 < r ∧ r < 1 ∧ (1 - r) * (s : Rat) + r * (t : Rat) = 0 := by
 have hd : (s : Rat) - t ≠ 0 := fun e => crosses_ne h (castQ_zero.1 (by push_cast; exact e))
 refine ⟨(s : Rat) / ((s : Rat) - t), ?_, ?_, by grind⟩
 ·rcases crosses_iff.1 h with ⟨h1, h2⟩ | ⟨h1, h2⟩
  ·have e : (s : Rat) / ((s : Rat) - t) = (-(s : Rat)) / ((t : Rat) - s) := by grind
   rw [e, Rat.div_def]
   have p1 := castQ_pos.2 (show 0 < -s by omega)
   have p2 := castQ_pos.2 (show 0 < t - s by omega)
   push_cast at p1 p2
   exact Rat.mul_pos p1 (Rat.inv_pos.2 p2)
  ·rw [Rat.div_def]
   have p1 := castQ_pos.2 h1
   have p2 := castQ_pos.2 (show 0 < s - t by omega)
   push_cast at p2
   exact Rat.mul_pos p1 (Rat.inv_pos.2 p2)
 ·have key : 0 < 1 - (s : Rat) / ((s : Rat) - t) := by
   rcases crosses_iff.1 h with ⟨h1, h2⟩ | ⟨h1, h2⟩
   ·have e : 1 - (s : Rat) / ((s : Rat) - t) = (t : Rat) / ((t : Rat) - s) := by grind
    rw [e, Rat.div_def]
    have p1 := castQ_pos.2 h2
    have p2 := castQ_pos.2 (show 0 < t - s by omega)
    push_cast at p2
    exact Rat.mul_pos p1 (Rat.inv_pos.2 p2)
   ·have e : 1 - (s : Rat) / ((s : Rat) - t) = (-(t : Rat)) / ((s : Rat) - t) := by grind
    rw [e, Rat.div_def]
    have p1 := castQ_pos.2 (show 0 < -t by omega)
    have p2 := castQ_pos.2 (show 0 < s - t by omega)
    push_cast at p1 p2
    exact Rat.mul_pos p1 (Rat.inv_pos.2 p2)
  grind
theorem lo1_spec {x y s t : Int} {r : Rat} (h : crossesB s t = true) (hr : (1 - r) * (s : Rat) + r * (t : Rat) = 0) : ((lo1 x y s t : Int) : Rat) ≤ x + r * ((y : Rat) - x) ∧ x + r * ((y : Rat) - x) < ((lo1 x y s t : Int) : Rat) + 1 := by
 have := flr_spec (a := (y - x) * s) (b := s - t) (crosses_ne h) (y := r * ((y : Rat) - x)) (by push_cast; grind)
 unfold lo1
 push_cast
 constructor <;> grind
theorem hi1_spec {x y s t : Int} {r : Rat} (h : crossesB s t = true) (hr : (1 - r) * (s : Rat) + r * (t : Rat) = 0) : x + r * ((y : Rat) - x) ≤ ((hi1 x y s t : Int) : Rat) ∧ ((hi1 x y s t : Int) : Rat) - 1 < x + r * ((y : Rat) - x) := by
 have := flr_spec (a := -((y - x) * s)) (b := s - t) (crosses_ne h) (y := -(r * ((y : Rat) - x))) (by push_cast; grind)
 unfold hi1
 push_cast
 constructor <;> grind
theorem pickQ {α w : Rat} {f c : Int} (h1 : (f : Rat) ≤ w) (h2 : w ≤ (c : Rat)) : ∃ X : Int, (X = f ∨ X = c) ∧ α * (X : Rat) ≤ α * w := by
 by_cases h : 0 ≤ α
 ·have := Rat.mul_nonneg h (show 0 ≤ w - f by grind)
  exact ⟨f, .inl rfl, by grind⟩
 ·have := Rat.mul_nonneg (show 0 ≤ -α by grind) (show 0 ≤ (c : Rat) - w by grind)
  exact ⟨c, .inr rfl, by grind⟩
theorem frame_lin {a b : Pt} {s t α β γ : Int} {r : Rat} (h : crossesB s t = true) (hr : (1 - r) * (s : Rat) + r * (t : Rat) = 0) (hf : ∀ y ∈ frameP a b s t, 0 ≤ aff α β γ y) : 0 ≤ (linI α β γ).at (segQ a b r) := by
 obtain ⟨a1, _⟩ := lo1_spec (x := a.1) (y := b.1) h hr
 obtain ⟨a2, _⟩ := hi1_spec (x := a.1) (y := b.1) h hr
 obtain ⟨b1, _⟩ := lo1_spec (x := a.2) (y := b.2) h hr
 obtain ⟨b2, _⟩ := hi1_spec (x := a.2) (y := b.2) h hr
 obtain ⟨X, hX, eX⟩ := pickQ (α := α) a1 a2
 obtain ⟨Y, hY, eY⟩ := pickQ (α := β) b1 b2
 have hm : (X, Y) ∈ frameP a b s t := by
  rcases hX with rfl | rfl <;> rcases hY with rfl | rfl <;> simp [frameP]
 have := linI_nonneg.2 (hf _ hm)
 unfold linI Lin.at q2 at this
 unfold linI Lin.at segQ mvP vecQ q2
 simp only at this ⊢
 grind
theorem frame_near {a b y : Pt} {s t : Int} {r : Rat} (h : crossesB s t = true) (hr : (1 - r) * (s : Rat) + r * (t : Rat) = 0) (hy : y ∈ frameP a b s t) :
  (-1 < (y.1 : Rat) - (segQ a b r).1 ∧ (y.1 : Rat) - (segQ a b r).1 < 1) ∧ -1 < (y.2 : Rat) - (segQ a b r).2 ∧ (y.2 : Rat) - (segQ a b r).2 < 1 := by
 have a1 := lo1_spec (x := a.1) (y := b.1) h hr
 have a2 := hi1_spec (x := a.1) (y := b.1) h hr
 have b1 := lo1_spec (x := a.2) (y := b.2) h hr
 have b2 := hi1_spec (x := a.2) (y := b.2) h hr
 have e1 : (segQ a b r).1 = a.1 + r * ((b.1 : Rat) - a.1) := rfl
 have e2 : (segQ a b r).2 = a.2 + r * ((b.2 : Rat) - a.2) := rfl
 rw [e1, e2]
 simp only [frameP, List.mem_cons, List.not_mem_nil, or_false] at hy
 rcases hy with rfl | rfl | rfl | rfl <;> (simp only; refine ⟨⟨?_, ?_⟩, ?_, ?_⟩ <;> grind)
theorem betw_int {m M n : Int} {w : Rat} (h1 : (m : Rat) ≤ w) (h2 : w ≤ (M : Rat)) (k1 : -1 < (n : Rat) - w) (k2 : (n : Rat) - w < 1) : m ≤ n ∧ n ≤ M := by
 have a1 : ((m - 1 : Int) : Rat) < (n : Rat) := by push_cast; grind
 have a2 : (n : Rat) < ((M + 1 : Int) : Rat) := by push_cast; grind
 have a1 : m - 1 < n := by exact_mod_cast a1
 have a2 : n < M + 1 := by exact_mod_cast a2
 omega
theorem frame_box {a b y : Pt} {s t : Int} (h : crossesB s t = true) (hy : y ∈ frameP a b s t) {m1 M1 m2 M2 : Int} (ha : m1 ≤ a.1 ∧ a.1 ≤ M1 ∧ m2 ≤ a.2 ∧ a.2 ≤ M2) (hb : m1 ≤ b.1 ∧ b.1 ≤ M1 ∧ m2 ≤ b.2 ∧ b.2 ≤ M2) : m1 ≤ y.1 ∧ y.1 ≤ M1 ∧ m2 ≤ y.2 ∧ y.2 ≤ M2 := by
 obtain ⟨r, r0, r1, hr⟩ := cut_at h
 obtain ⟨⟨n1, n2⟩, n3, n4⟩ := frame_near h hr hy
 have mix : ∀ {x y m M : Int}, m ≤ x ∧ x ≤ M → m ≤ y ∧ y ≤ M → (m : Rat) ≤ x + r * ((y : Rat) - x) ∧ x + r * ((y : Rat) - x) ≤ (M : Rat) := fun {x y m M} hx hy => by
  have p1 := Rat.mul_nonneg (show 0 ≤ 1 - r by grind) (castQ_nonneg.2 (show 0 ≤ x - m by omega))
  have p2 := Rat.mul_nonneg (Rat.le_of_lt r0) (castQ_nonneg.2 (show 0 ≤ y - m by omega))
  have p3 := Rat.mul_nonneg (show 0 ≤ 1 - r by grind) (castQ_nonneg.2 (show 0 ≤ M - x by omega))
  have p4 := Rat.mul_nonneg (Rat.le_of_lt r0) (castQ_nonneg.2 (show 0 ≤ M - y by omega))
  push_cast at p1 p2 p3 p4
  constructor <;> grind
 have g1 := mix ⟨ha.1, ha.2.1⟩ ⟨hb.1, hb.2.1⟩
 have g2 := mix ⟨ha.2.2.1, ha.2.2.2⟩ ⟨hb.2.2.1, hb.2.2.2⟩
 have z1 := betw_int g1.1 g1.2 n1 n2
 have z2 := betw_int g2.1 g2.2 n3 n4
 exact ⟨z1.1, z1.2, z2.1, z2.2⟩
theorem frame_same {a b c d : Pt} (h : crossesB (crossP a b c) (crossP a b d) = true) (k : crossesB (crossP c d a) (crossP c d b) = true) : frameP c d (crossP a b c) (crossP a b d) = frameP a b (crossP c d a) (crossP c d b) := by
 obtain ⟨r, r0, r1, hr⟩ := cut_at h
 have hab : a ≠ b := fun e => by
  subst e
  have : ∀ y, crossP a a y = 0 := fun y => by unfold crossP cross; grind
  rw [this, this] at h; cases h
 obtain ⟨u, hu⟩ := on_line (w := segQ c d r) hab (by rw [segQ_at, sideQ_at, sideQ_at]; exact hr)
 have hu' : (1 - u) * ((crossP c d a : Int) : Rat) + u * ((crossP c d b : Int) : Rat) = 0 := by
  rw [← sideQ_at, ← sideQ_at, ← segQ_at, ← hu, segQ_at, sideQ_l, sideQ_r]; grind
 have e1 : c.1 + r * ((d.1 : Rat) - c.1) = a.1 + u * ((b.1 : Rat) - a.1) := congrArg (fun w : P2 => w.1) hu
 have e2 : c.2 + r * ((d.2 : Rat) - c.2) = a.2 + u * ((b.2 : Rat) - a.2) := congrArg (fun w : P2 => w.2) hu
 have lo : ∀ {x y x' y' : Int}, (x : Rat) + r * ((y : Rat) - x) = x' + u * ((y' : Rat) - x') → lo1 x y (crossP a b c) (crossP a b d) = lo1 x' y' (crossP c d a) (crossP c d b) := fun {x y x' y'} e => by
  have g1 := lo1_spec (x := x) (y := y) h hr
  have g2 := lo1_spec (x := x') (y := y') k hu'
  rw [e] at g1
  exact floor_unique g1.1 g1.2 g2.1 g2.2
 have hi : ∀ {x y x' y' : Int}, (x : Rat) + r * ((y : Rat) - x) = x' + u * ((y' : Rat) - x') → hi1 x y (crossP a b c) (crossP a b d) = hi1 x' y' (crossP c d a) (crossP c d b) := fun {x y x' y'} e => by
  have g1 := hi1_spec (x := x) (y := y) h hr
  have g2 := hi1_spec (x := x') (y := y') k hu'
  rw [e] at g1
  have a1 : ((hi1 x y (crossP a b c) (crossP a b d) : Int) : Rat) < ((hi1 x' y' (crossP c d a) (crossP c d b) + 1 : Int) : Rat) := by push_cast; grind
  have a2 : ((hi1 x' y' (crossP c d a) (crossP c d b) : Int) : Rat) < ((hi1 x y (crossP a b c) (crossP a b d) + 1 : Int) : Rat) := by push_cast; grind
  have a1 : hi1 x y (crossP a b c) (crossP a b d) < hi1 x' y' (crossP c d a) (crossP c d b) + 1 := by exact_mod_cast a1
  have a2 : hi1 x' y' (crossP c d a) (crossP c d b) < hi1 x y (crossP a b c) (crossP a b d) + 1 := by exact_mod_cast a2
  omega
 unfold frameP
 rw [lo e1, lo e2, hi e1, hi e2]
end Go.Proofs.YtcdlplobniogpaaGreat
namespace Go.Proofs.YtcdlplobniogpaaGreat
open Go
theorem mem_64 {l : List Pt} (h : ∀ p ∈ l, placeB p = true) : i64P l := fun i hi => place_64 (h _ (gp_mem hi))
theorem hullB_mid {l : List Pt} (hp : ∀ p ∈ l, placeB p = true) (hne : l ≠ []) (hl : l.length ≤ 4000) : hullB l = if (aroundP l).length ≤ 64 then (aroundP l, 0) else ([], 2) := by
 unfold hullB
 rw [if_neg (by omega), if_neg]
 ·split <;> split <;> first | rfl | omega
 rintro (h | h)
 ·exact hne h
 ·rw [List.all_eq_true.2 hp] at h; cases h
theorem valid_small {l : List Pt} (hp : ∀ p ∈ l, placeB p = true) (hne : l ≠ []) (hl : (aroundP l).length ≤ 64) : validB (aroundP l) = true := (around_hl hne).valid hp hl
theorem valid_mem {p : List Pt} (h : validB p = true) : ∀ x ∈ p, placeB x = true := fun x hx => by
 obtain ⟨i, hi, rfl⟩ := mem_gp hx
 exact valid_place h hi
theorem lo_le {g : Pt → Int} {A B : List Pt} (hA : 1 ≤ A.length) (hB : 1 ≤ B.length) (h : ∀ x ∈ A, loB g B ≤ g x) (k : ∀ x ∈ B, loB g A ≤ g x) : loB g A = loB g B := by
 obtain ⟨_, y, hy, e⟩ := lo_spec g hA
 obtain ⟨_, z, hz, f⟩ := lo_spec g hB
 have := h y hy
 have := k z hz
 omega
theorem hi_le {g : Pt → Int} {A B : List Pt} (hA : 1 ≤ A.length) (hB : 1 ≤ B.length) (h : ∀ x ∈ A, g x ≤ hiB g B) (k : ∀ x ∈ B, g x ≤ hiB g A) : hiB g A = hiB g B := by
 obtain ⟨_, y, hy, e⟩ := hi_spec g hA
 obtain ⟨_, z, hz, f⟩ := hi_spec g hB
 have := h y hy
 have := k z hz
 omega
theorem b8_ext {A B : List Pt} (hA : 1 ≤ A.length) (hB : 1 ≤ B.length) (h : ∀ x ∈ A, (b8 B).has x) (k : ∀ x ∈ B, (b8 A).has x) : b8 A = b8 B := by
 show (⟨loB fX A, hiB fX A, loB fY A, hiB fY A, loB fS A, hiB fS A, loB fD A, hiB fD A⟩ : B8) = ⟨loB fX B, hiB fX B, loB fY B, hiB fY B, loB fS B, hiB fS B, loB fD B, hiB fD B⟩
 rw [lo_le (g := fX) hA hB (fun x hx => (h x hx).1) (fun x hx => (k x hx).1),
  hi_le (g := fX) hA hB (fun x hx => (h x hx).2.1) (fun x hx => (k x hx).2.1),
  lo_le (g := fY) hA hB (fun x hx => (h x hx).2.2.1) (fun x hx => (k x hx).2.2.1),
  hi_le (g := fY) hA hB (fun x hx => (h x hx).2.2.2.1) (fun x hx => (k x hx).2.2.2.1),
  lo_le (g := fS) hA hB (fun x hx => (h x hx).2.2.2.2.1) (fun x hx => (k x hx).2.2.2.2.1),
  hi_le (g := fS) hA hB (fun x hx => (h x hx).2.2.2.2.2.1) (fun x hx => (k x hx).2.2.2.2.2.1),
  lo_le (g := fD) hA hB (fun x hx => (h x hx).2.2.2.2.2.2.1) (fun x hx => (k x hx).2.2.2.2.2.2.1),
  hi_le (g := fD) hA hB (fun x hx => (h x hx).2.2.2.2.2.2.2) (fun x hx => (k x hx).2.2.2.2.2.2.2)]
theorem b8_mono {A B : List Pt} (hA : 1 ≤ A.length) (hB : 1 ≤ B.length) (h : ∀ x ∈ A, (b8 B).has x) {y : Pt} (hy : (b8 A).has y) : (b8 B).has y := by
 have lo : ∀ g : Pt → Int, (∀ x ∈ A, loB g B ≤ g x) → loB g B ≤ loB g A := fun g hg => by
  obtain ⟨_, z, hz, e⟩ := lo_spec g hA
  rw [e]; exact hg z hz
 have hi : ∀ g : Pt → Int, (∀ x ∈ A, g x ≤ hiB g B) → hiB g A ≤ hiB g B := fun g hg => by
  obtain ⟨_, z, hz, e⟩ := hi_spec g hA
  rw [e]; exact hg z hz
 obtain ⟨h1, h2, h3, h4, h5, h6, h7, h8⟩ := hy
 exact ⟨Int.le_trans (lo fX fun x hx => (h x hx).1) h1, Int.le_trans h2 (hi fX fun x hx => (h x hx).2.1),
  Int.le_trans (lo fY fun x hx => (h x hx).2.2.1) h3, Int.le_trans h4 (hi fY fun x hx => (h x hx).2.2.2.1),
  Int.le_trans (lo fS fun x hx => (h x hx).2.2.2.2.1) h5, Int.le_trans h6 (hi fS fun x hx => (h x hx).2.2.2.2.2.1),
  Int.le_trans (lo fD fun x hx => (h x hx).2.2.2.2.2.2.1) h7, Int.le_trans h8 (hi fD fun x hx => (h x hx).2.2.2.2.2.2.2)⟩
theorem ne_len {l : List Pt} (h : l ≠ []) : 1 ≤ l.length := List.length_pos_iff.2 h
theorem corners_hl {S q : List Pt} (h : Hl S q) {x : Pt} (hx : hasB q x = true) (a b c : Int) (hc : ∀ i, i < q.length → 0 ≤ aff a b c (gp q i)) : 0 ≤ aff a b c x := by
 by_cases h64 : q.length ≤ 2
 ·have hn := h.pos
  unfold hasB at hx
  split at hx
  ·have : gp q 0 = x := by simpa using hx
   rw [← this]; exact hc 0 (by omega)
  rw [if_pos (by omega)] at hx
  simp only [Bool.and_eq_true, decide_eq_true_eq, betwB] at hx
  obtain ⟨hz, b1, b2, b3, b4⟩ := hx
  have hl : lexLt (gp q 0) (gp q 1) := by
   cases h with
   | one a hp _ _ => subst hp; rename_i h1; exact absurd rfl h1
   | many h =>
    rcases lexLe_cases (h.fst _ (h.side 1 (by omega)).1) with g | g
    ·exact g
    ·exact absurd g (h.inj 0 1 (by omega) (by omega))
  have c0 := hc 0 (by omega)
  have c1 := hc 1 (by omega)
  unfold lexLt at hl
  rcases hl with hl | ⟨he, hl⟩
  ·refine pos_of_mul (t := (gp q 1).1 - (gp q 0).1) (by omega) ?_
   rw [seg_x, hz]
   have g1 := Int.mul_nonneg (show 0 ≤ (gp q 1).1 - x.1 by omega) c0
   have g2 := Int.mul_nonneg (show 0 ≤ x.1 - (gp q 0).1 by omega) c1
   omega
  ·refine pos_of_mul (t := (gp q 1).2 - (gp q 0).2) (by omega) ?_
   rw [seg_y, hz]
   have g1 := Int.mul_nonneg (show 0 ≤ (gp q 1).2 - x.2 by omega) c0
   have g2 := Int.mul_nonneg (show 0 ≤ x.2 - (gp q 0).2 by omega) c1
   omega
 ·cases h with
  | one a hp _ _ => subst hp; exact absurd (show 1 ≤ 2 by decide) h64
  | many h =>
   unfold hasB at hx
   rw [if_neg (by omega), if_neg (by omega)] at hx
   have hs : ∀ i, i < q.length → 0 ≤ crossP (gp q i) (gp q ((i + 1) % q.length)) x := fun i hi => by
    have := all_iff.1 hx i hi
    simpa [sideB] using this
   have s0 := hs 0 (by omega)
   rw [Nat.mod_eq_of_lt (show 0 + 1 < q.length by omega)] at s0
   have sn := hs (q.length - 1) (by omega)
   rw [show q.length - 1 + 1 = q.length by omega, Nat.mod_self] at sn
   obtain ⟨i, i1, i2, p1, p2⟩ := sign_change (fun i => crossP (gp q 0) (gp q i) x) (q.length - 3) s0 (by
    show crossP (gp q 0) (gp q (q.length - 3 + 2)) x ≤ 0
    rw [show q.length - 3 + 2 = q.length - 1 by omega, cross_flip]; omega)
   have hsi := hs i (by omega)
   rw [Nat.mod_eq_of_lt (show i + 1 < q.length by omega)] at hsi
   have ht : 0 < crossP (gp q 0) (gp q i) (gp q (i + 1)) := by
    have e := h.strict (i := i) (by omega) (k := 0) (by omega) (by omega) (by rw [Nat.mod_eq_of_lt (by omega)]; omega)
    rw [Nat.mod_eq_of_lt (show i + 1 < q.length by omega)] at e
    rw [cross_rot] at e; exact e
   refine pos_of_mul ht ?_
   rw [bary]
   have g1 := Int.mul_nonneg hsi (hc 0 (by omega))
   have g2 := Int.mul_nonneg (show 0 ≤ crossP (gp q (i + 1)) (gp q 0) x by rw [cross_flip]; omega) (hc i (by omega))
   have g3 := Int.mul_nonneg p1 (hc (i + 1) (by omega))
   omega
theorem b8_hl {S q : List Pt} (h : Hl S q) {x : Pt} (hx : hasB q x = true) : (b8 q).has x := by
 have k := fun α β γ => corners_hl h hx α β γ
 have c := fun i hi => b8_has h.pos (gp q i) (gp_mem hi)
 unfold B8.has at c
 refine ⟨?_, ?_, ?_, ?_, ?_, ?_, ?_, ?_⟩
 ·have := k 1 0 (-(b8 q).a) (fun i hi => by have := c i hi; unfold aff; omega)
  unfold aff at this; omega
 ·have := k (-1) 0 (b8 q).b (fun i hi => by have := c i hi; unfold aff; omega)
  unfold aff at this; omega
 ·have := k 0 1 (-(b8 q).c) (fun i hi => by have := c i hi; unfold aff; omega)
  unfold aff at this; omega
 ·have := k 0 (-1) (b8 q).d (fun i hi => by have := c i hi; unfold aff; omega)
  unfold aff at this; omega
 ·have := k 1 1 (-(b8 q).s) (fun i hi => by have := c i hi; unfold aff; omega)
  unfold aff at this; omega
 ·have := k (-1) (-1) (b8 q).t (fun i hi => by have := c i hi; unfold aff; omega)
  unfold aff at this; omega
 ·have := k 1 (-1) (-(b8 q).u) (fun i hi => by have := c i hi; unfold aff; omega)
  unfold aff at this; omega
 ·have := k (-1) 1 (b8 q).v (fun i hi => by have := c i hi; unfold aff; omega)
  unfold aff at this; omega
theorem b8_all {S : List Pt} (hne : S ≠ []) : b8 (aroundP S) = b8 S :=
 b8_ext (around_hl hne).pos (ne_len hne) (fun x hx => b8_has (ne_len hne) x ((around_hl hne).sub x hx)) fun x hx => b8_hl (around_hl hne) ((around_hl hne).has hx)
theorem b8_gen {p : List Pt} (hn : 1 ≤ p.length) (hP : ∀ x ∈ p, placeB x = true) : (-500000 ≤ (b8 p).a ∧ (b8 p).b ≤ 500000 ∧ -500000 ≤ (b8 p).c ∧ (b8 p).d ≤ 500000) ∧ (b8 p).In ∧ (∀ x ∈ (b8 p).pts, placeB x = true) ∧ Hl (b8 p).pts (eightP p) := by
 have hm := b8_met hn
 have hi := hm.in
 have bd : ∀ y ∈ p, -500000 ≤ y.1 ∧ y.1 ≤ 500000 ∧ -500000 ≤ y.2 ∧ y.2 ≤ 500000 := fun y hy => place_bd (hP y hy)
 obtain ⟨y1, m1, e1⟩ := (lo_spec fX hn).2
 obtain ⟨y2, m2, e2⟩ := (hi_spec fX hn).2
 obtain ⟨y3, m3, e3⟩ := (lo_spec fY hn).2
 obtain ⟨y4, m4, e4⟩ := (hi_spec fY hn).2
 have b1 := bd y1 m1
 have b2 := bd y2 m2
 have b3 := bd y3 m3
 have b4 := bd y4 m4
 unfold fX at e1 e2
 unfold fY at e3 e4
 have f1 : (b8 p).a = y1.1 := e1
 have f2 : (b8 p).b = y2.1 := e2
 have f3 : (b8 p).c = y3.2 := e3
 have f4 : (b8 p).d = y4.2 := e4
 refine ⟨by omega, hi, fun x hx => ?_, ?_⟩
 ·have hx := hi.pts_has x hx
  unfold B8.has at hx
  simp only [placeB, isCb, Bool.and_eq_true, decide_eq_true_eq]
  omega
 ·unfold eightP
  rw [hi.eq]
  exact around_hl (by simp [B8.pts])
end Go.Proofs.YtcdlplobniogpaaGreat
namespace Go.Proofs.YtcdlplobniogpaaGreat
open Go
def octL (l : List Pt) : List Pt := aroundP (b8 l).ptsP
def arC (l : List Pt) : List Pt := if l = [] then [] else if l.length ≤ 4000 ∧ (aroundP l).length ≤ 64 then aroundP l else octL l
theorem oct_spec {l : List Pt} (hne : l ≠ []) (hP : ∀ x ∈ l, placeB x = true) : Hl (b8 l).pts (octL l) ∧ validB (octL l) = true ∧ (octL l).length ≤ 8 ∧ (b8 l).In ∧ ∀ x, (b8 l).has x → hasB (octL l) x = true := by
 obtain ⟨_, hi, hpl, hh⟩ := b8_gen (ne_len hne) hP
 have hh : Hl (b8 l).pts (octL l) := hh
 have h8 : (octL l).length ≤ 8 := hl_len hh
 exact ⟨hh, hh.valid hpl (by omega), h8, hi, fun x hx => hl_lin hh fun α β γ h => B8.lin hx α β γ h⟩
def linIn (ps : List Pt) (x : Pt) : Prop := ∀ α β γ : Int, (∀ y ∈ ps, 0 ≤ aff α β γ y) → 0 ≤ aff α β γ x
theorem lin_b8 {l : List Pt} (hne : l ≠ []) {x : Pt} (hx : linIn l x) : (b8 l).has x := by
 have c := b8_has (ne_len hne)
 unfold B8.has at c
 refine ⟨?_, ?_, ?_, ?_, ?_, ?_, ?_, ?_⟩
 ·have := hx 1 0 (-(b8 l).a) (fun y hy => by have := c y hy; unfold aff; omega)
  unfold aff at this; omega
 ·have := hx (-1) 0 (b8 l).b (fun y hy => by have := c y hy; unfold aff; omega)
  unfold aff at this; omega
 ·have := hx 0 1 (-(b8 l).c) (fun y hy => by have := c y hy; unfold aff; omega)
  unfold aff at this; omega
 ·have := hx 0 (-1) (b8 l).d (fun y hy => by have := c y hy; unfold aff; omega)
  unfold aff at this; omega
 ·have := hx 1 1 (-(b8 l).s) (fun y hy => by have := c y hy; unfold aff; omega)
  unfold aff at this; omega
 ·have := hx (-1) (-1) (b8 l).t (fun y hy => by have := c y hy; unfold aff; omega)
  unfold aff at this; omega
 ·have := hx 1 (-1) (-(b8 l).u) (fun y hy => by have := c y hy; unfold aff; omega)
  unfold aff at this; omega
 ·have := hx (-1) 1 (b8 l).v (fun y hy => by have := c y hy; unfold aff; omega)
  unfold aff at this; omega
theorem lin_ne {l : List Pt} {x : Pt} (hx : linIn l x) : l ≠ [] := fun e => by
 have := hx 0 0 (-1) (fun y hy => by rw [e] at hy; cases hy)
 unfold aff at this; omega
theorem arC_valid {l : List Pt} (hne : l ≠ []) (hP : ∀ x ∈ l, placeB x = true) : validB (arC l) = true := by
 unfold arC
 rw [if_neg hne]
 split
 ·rename_i h; exact valid_small hP hne h.2
 ·exact (oct_spec hne hP).2.1
theorem arC_has {l : List Pt} (hP : ∀ x ∈ l, placeB x = true) {x : Pt} (hx : linIn l x) : hasB (arC l) x = true := by
 have hne := lin_ne hx
 unfold arC
 rw [if_neg hne]
 split
 ·exact hl_lin (around_hl hne) hx
 ·exact (oct_spec hne hP).2.2.2.2 x (lin_b8 hne hx)
theorem arC_box {l : List Pt} (hP : ∀ x ∈ l, placeB x = true) {m1 M1 m2 M2 : Int} (hb : ∀ x ∈ l, m1 ≤ x.1 ∧ x.1 ≤ M1 ∧ m2 ≤ x.2 ∧ x.2 ≤ M2) : ∀ y ∈ arC l, m1 ≤ y.1 ∧ y.1 ≤ M1 ∧ m2 ≤ y.2 ∧ y.2 ≤ M2 := by
 intro y hy
 unfold arC at hy
 by_cases hne : l = []
 ·rw [if_pos hne] at hy; cases hy
 rw [if_neg hne] at hy
 split at hy
 ·exact hb y ((around_hl hne).sub y hy)
 ·obtain ⟨h1, _, _, h4, _⟩ := oct_spec hne hP
  have hx := h4.pts_has y (h1.sub y hy)
  unfold B8.has at hx
  obtain ⟨y1, m1', e1⟩ := (lo_spec fX (ne_len hne)).2
  obtain ⟨y2, m2', e2⟩ := (hi_spec fX (ne_len hne)).2
  obtain ⟨y3, m3', e3⟩ := (lo_spec fY (ne_len hne)).2
  obtain ⟨y4, m4', e4⟩ := (hi_spec fY (ne_len hne)).2
  have b1 := hb y1 m1'
  have b2 := hb y2 m2'
  have b3 := hb y3 m3'
  have b4 := hb y4 m4'
  unfold fX at e1 e2
  unfold fY at e3 e4
  have f1 : (b8 l).a = y1.1 := e1
  have f2 : (b8 l).b = y2.1 := e2
  have f3 : (b8 l).c = y3.2 := e3
  have f4 : (b8 l).d = y4.2 := e4
  omega
theorem arC_b8 {l : List Pt} (hne : l ≠ []) (hP : ∀ x ∈ l, placeB x = true) : b8 (arC l) = b8 l := by
 unfold arC
 rw [if_neg hne]
 split
 ·exact b8_all hne
 ·obtain ⟨h1, h2, _, h4, h5⟩ := oct_spec hne hP
  exact b8_ext (len_one h2).1 (ne_len hne) (fun x hx => h4.pts_has x (h1.sub x hx)) fun x hx => has_b8 h2 (h5 x (b8_has (ne_len hne) x hx))
theorem arC_parts {l A B : List Pt} (hA : A ≠ []) (hB : B ≠ []) (hl : l = A ++ B) (hP : ∀ x ∈ l, placeB x = true) :
  validB (arC A) = true ∧ validB (arC B) = true ∧ validB (arC (eightP (arC A) ++ eightP (arC B))) = true ∧ eightP (arC (eightP (arC A) ++ eightP (arC B))) = octL l ∧ eightP (arC A) ++ eightP (arC B) ≠ [] ∧ (∀ x ∈ eightP (arC A) ++ eightP (arC B), placeB x = true) ∧ (eightP (arC A) ++ eightP (arC B)).length ≤ 16 := by
 have pA : ∀ x ∈ A, placeB x = true := fun x hx => hP x (by rw [hl]; exact List.mem_append.2 (.inl hx))
 have pB : ∀ x ∈ B, placeB x = true := fun x hx => hP x (by rw [hl]; exact List.mem_append.2 (.inr hx))
 have vA := arC_valid hA pA
 have vB := arC_valid hB pB
 obtain ⟨_, a2, a3, a4, _⟩ := eight_spec vA
 obtain ⟨_, b2, b3, b4, _⟩ := eight_spec vB
 have hne : eightP (arC A) ++ eightP (arC B) ≠ [] := fun e => by
  have := (len_one a2).1
  have e := congrArg List.length e
  rw [List.length_append] at e
  simp only [List.length_nil] at e
  omega
 have hpl : ∀ x ∈ eightP (arC A) ++ eightP (arC B), placeB x = true := fun x hx => by
  rcases List.mem_append.1 hx with hx | hx
  ·exact valid_mem a2 x hx
  ·exact valid_mem b2 x hx
 have hlne : l ≠ [] := fun e => by rw [hl] at e; exact hA (List.append_eq_nil_iff.1 e).1
 refine ⟨vA, vB, arC_valid hne hpl, ?_, hne, hpl, by rw [List.length_append]; omega⟩
 show aroundP (b8 (arC (eightP (arC A) ++ eightP (arC B)))).ptsP = aroundP (b8 l).ptsP
 rw [arC_b8 hne hpl]
 have e : b8 (eightP (arC A) ++ eightP (arC B)) = b8 l := by
  have eA : b8 (eightP (arC A)) = b8 A := by rw [a4, arC_b8 hA pA]
  have eB : b8 (eightP (arC B)) = b8 B := by rw [b4, arC_b8 hB pB]
  refine b8_ext (ne_len hne) (ne_len hlne) (fun x hx => ?_) fun x hx => ?_
  ·rcases List.mem_append.1 hx with hx | hx
   ·refine b8_mono (ne_len hA) (ne_len hlne) (fun z hz => b8_has (ne_len hlne) z (by rw [hl]; exact List.mem_append.2 (.inl hz))) ?_
    rw [← eA]; exact b8_has (len_one a2).1 x hx
   ·refine b8_mono (ne_len hB) (ne_len hlne) (fun z hz => b8_has (ne_len hlne) z (by rw [hl]; exact List.mem_append.2 (.inr hz))) ?_
    rw [← eB]; exact b8_has (len_one b2).1 x hx
  ·rw [hl] at hx
   rcases List.mem_append.1 hx with hx | hx
   ·refine b8_mono (len_one a2).1 (ne_len hne) (fun z hz => b8_has (ne_len hne) z (List.mem_append.2 (.inl hz))) ?_
    rw [eA]; exact b8_has (ne_len hA) x hx
   ·refine b8_mono (len_one b2).1 (ne_len hne) (fun z hz => b8_has (ne_len hne) z (List.mem_append.2 (.inr hz))) ?_
    rw [eB]; exact b8_has (ne_len hB) x hx
 rw [e]
theorem arC_congr {l m : List Pt} (h : ∀ x, x ∈ l ↔ x ∈ m) (hl : l.length = m.length) : arC l = arC m := by
 by_cases e : l = []
 ·subst e
  have : m = [] := List.length_eq_zero_iff.1 hl.symm
  rw [this]
 have e2 : m ≠ [] := fun e' => e (List.length_eq_zero_iff.1 (by rw [hl, e']; rfl))
 have ha : aroundP l = aroundP m := (around_eq ((around_hl e2).congr fun x => h x))
 have hb : b8 l = b8 m := b8_ext (ne_len e) (ne_len e2) (fun x hx => b8_has (ne_len e2) x ((h x).1 hx)) fun x hx => b8_has (ne_len e) x ((h x).2 hx)
 unfold arC octL
 rw [if_neg e, if_neg e2, ha, hb, hl]
end Go.Proofs.YtcdlplobniogpaaGreat
namespace Go.Proofs.YtcdlplobniogpaaGreat
open Go
def ovr (A B C : Int) (x : Pt) : Int := A * x.1 + B * x.2 - C
def keepL (p : List Pt) (A B C : Int) (i : Nat) : List Pt := (if ovr A B C (gp p i) ≤ 0 then [gp p i] else []) ++ (if crossesB (ovr A B C (gp p i)) (ovr A B C (nx p i)) = true then frameP (gp p i) (nx p i) (ovr A B C (gp p i)) (ovr A B C (nx p i)) else [])
def cutL (p : List Pt) (A B C : Int) (k : Nat) : List Pt := (List.range k).flatMap (keepL p A B C)
def cutA (p : List Pt) (A B C : Int) : List Pt := cutL p A B C p.length
theorem cutL_step (p : List Pt) (A B C : Int) (k : Nat) : cutL p A B C (k + 1) = cutL p A B C k ++ keepL p A B C k := by unfold cutL; rw [List.range_succ, List.flatMap_append]; simp
theorem mem_cutA {p : List Pt} {A B C : Int} {y : Pt} : y ∈ cutA p A B C ↔ ∃ i, i < p.length ∧ y ∈ keepL p A B C i := by unfold cutA cutL; simp only [List.mem_flatMap, List.mem_range]
theorem mem_keepL {p : List Pt} {A B C : Int} {i : Nat} {y : Pt} : y ∈ keepL p A B C i ↔ (ovr A B C (gp p i) ≤ 0 ∧ y = gp p i) ∨ (crossesB (ovr A B C (gp p i)) (ovr A B C (nx p i)) = true ∧ y ∈ frameP (gp p i) (nx p i) (ovr A B C (gp p i)) (ovr A B C (nx p i))) := by
 unfold keepL
 rw [List.mem_append]
 constructor
 ·rintro (h | h)
  ·split at h
   ·rename_i g; exact .inl ⟨g, by simpa using h⟩
   ·cases h
  ·split at h
   ·rename_i g; exact .inr ⟨g, h⟩
   ·cases h
 ·rintro (⟨g, rfl⟩ | ⟨g, h⟩)
  ·exact .inl (by rw [if_pos g]; simp)
  ·exact .inr (by rw [if_pos g]; exact h)
theorem keepL_len (p : List Pt) (A B C : Int) (i : Nat) : (keepL p A B C i).length ≤ 5 := by
 unfold keepL
 rw [List.length_append]
 split <;> split <;> simp [frameP]
theorem cutL_len (p : List Pt) (A B C : Int) : ∀ k, (cutL p A B C k).length ≤ 5 * k
 | 0 => by simp [cutL]
 | k + 1 => by
  have := cutL_len p A B C k
  have := keepL_len p A B C k
  rw [cutL_step, List.length_append]; omega
theorem cut_in {p : List Pt} (hp : validB p = true) {A B C : Int} (hAB : ¬ (A = 0 ∧ B = 0)) {x : Pt} (hx : hasB p x = true) (hg : ovr A B C x ≤ 0) : linIn (cutA p A B C) x := by
 intro α β γ hall
 refine Int.not_lt.1 fun hl => ?_
 refine cut_neg (f := linI α β γ) hp (A := A) (B := B) (C := C) hAB (fun y hy hg' => ?_) (fun i hi hc r hr => ?_) hx hg ?_
 ·obtain ⟨i, hi, rfl⟩ := mem_gp hy
  have := linI_nonneg.2 (hall _ (mem_cutA.2 ⟨i, hi, mem_keepL.2 (.inl ⟨hg', rfl⟩)⟩))
  exact Rat.not_lt.2 this
 ·have := frame_lin (α := α) (β := β) (γ := γ) hc hr fun y hy => hall _ (mem_cutA.2 ⟨i, hi, mem_keepL.2 (.inr ⟨hc, hy⟩)⟩)
  exact Rat.not_lt.2 this
 ·rw [linI_at]
  have : ((aff α β γ x : Int) : Rat) < ((0 : Int) : Rat) := by exact_mod_cast hl
  exact_mod_cast this
theorem cut_box {p : List Pt} {A B C m1 M1 m2 M2 : Int} (hb : ∀ x ∈ p, m1 ≤ x.1 ∧ x.1 ≤ M1 ∧ m2 ≤ x.2 ∧ x.2 ≤ M2) : ∀ y ∈ cutA p A B C, m1 ≤ y.1 ∧ y.1 ≤ M1 ∧ m2 ≤ y.2 ∧ y.2 ≤ M2 := by
 intro y hy
 obtain ⟨i, hi, hy⟩ := mem_cutA.1 hy
 rcases mem_keepL.1 hy with ⟨_, rfl⟩ | ⟨hc, hy⟩
 ·exact hb _ (gp_mem hi)
 ·exact frame_box hc hy (hb _ (gp_mem hi)) (hb _ (nx_mem hi))
theorem place_box {x : Pt} : placeB x = true ↔ -500000 ≤ x.1 ∧ x.1 ≤ 500000 ∧ -500000 ≤ x.2 ∧ x.2 ≤ 500000 := by
 simp only [placeB, isCb, Bool.and_eq_true, decide_eq_true_eq]; omega
theorem cut_place {p : List Pt} (hp : validB p = true) (A B C : Int) : ∀ y ∈ cutA p A B C, placeB y = true := fun y hy =>
 place_box.2 (cut_box (fun x hx => place_box.1 (valid_mem hp x hx)) y hy)
def cellX (p q : List Pt) (i j : Nat) : List Pt := if crossIJ p q i j = true then frameP (gp q j) (nx q j) (crossP (gp p i) (nx p i) (gp q j)) (crossP (gp p i) (nx p i) (nx q j)) else []
def rowX (p q : List Pt) (i k : Nat) : List Pt := (List.range k).flatMap (cellX p q i)
def crosX (p q : List Pt) (k : Nat) : List Pt := (List.range k).flatMap fun i => rowX p q i q.length
def crosA (p q : List Pt) : List Pt := crosX p q p.length
def cornA (p q : List Pt) : List Pt := p.filter (hasB q)
def sharA (p q : List Pt) : List Pt := cornA p q ++ (cornA q p ++ crosA p q)
theorem rowX_step (p q : List Pt) (i k : Nat) : rowX p q i (k + 1) = rowX p q i k ++ cellX p q i k := by unfold rowX; rw [List.range_succ, List.flatMap_append]; simp
theorem crosX_step (p q : List Pt) (k : Nat) : crosX p q (k + 1) = crosX p q k ++ rowX p q k q.length := by unfold crosX; rw [List.range_succ, List.flatMap_append]; simp
theorem mem_crosA {p q : List Pt} {y : Pt} : y ∈ crosA p q ↔ ∃ i j, i < p.length ∧ j < q.length ∧ crossIJ p q i j = true ∧ y ∈ frameP (gp q j) (nx q j) (crossP (gp p i) (nx p i) (gp q j)) (crossP (gp p i) (nx p i) (nx q j)) := by
 unfold crosA crosX rowX
 simp only [List.mem_flatMap, List.mem_range, cellX]
 constructor
 ·rintro ⟨i, hi, j, hj, h⟩
  split at h
  ·rename_i g; exact ⟨i, j, hi, hj, g, h⟩
  ·cases h
 ·rintro ⟨i, j, hi, hj, g, h⟩
  exact ⟨i, hi, j, hj, by rw [if_pos g]; exact h⟩
theorem cellX_len (p q : List Pt) (i j : Nat) : (cellX p q i j).length = if crossIJ p q i j = true then 4 else 0 := by
 unfold cellX; split <;> rfl
theorem rowX_len (p q : List Pt) (i : Nat) : ∀ k, (rowX p q i k).length ≤ 4 * k
 | 0 => by simp [rowX]
 | k + 1 => by
  have := rowX_len p q i k
  have e := cellX_len p q i k
  rw [rowX_step, List.length_append, e]
  split <;> omega
theorem crosX_len (p q : List Pt) (hq : q.length ≤ 64) : ∀ k, (crosX p q k).length ≤ 256 * k
 | 0 => by simp [crosX]
 | k + 1 => by
  have := crosX_len p q hq k
  have := rowX_len p q k q.length
  rw [crosX_step, List.length_append]; omega
theorem mem_cornA {p q : List Pt} {y : Pt} : y ∈ cornA p q ↔ y ∈ p ∧ hasB q y = true := by unfold cornA; exact List.mem_filter
theorem mem_sharA {p q : List Pt} {y : Pt} : y ∈ sharA p q ↔ (y ∈ p ∧ hasB q y = true) ∨ (y ∈ q ∧ hasB p y = true) ∨ y ∈ crosA p q := by
 unfold sharA; rw [List.mem_append, List.mem_append, mem_cornA, mem_cornA]
theorem shar_in {p q : List Pt} (hp : validB p = true) (hq : validB q = true) {x : Pt} (hx : hasB p x = true) (hy : hasB q x = true) : linIn (sharA p q) x := by
 intro α β γ hall
 refine Int.not_lt.1 fun hl => ?_
 have E : EndOf p q (linI α β γ) := by
  refine ⟨fun y hy' h => Rat.not_lt.2 (linI_nonneg.2 (hall _ (mem_sharA.2 (.inl ⟨hy', h⟩)))), fun y hy' h => Rat.not_lt.2 (linI_nonneg.2 (hall _ (mem_sharA.2 (.inr (.inl ⟨hy', h⟩))))), fun i j hi hj hc r s e => ?_⟩
  rw [e]
  have hc1 : crossesB (crossP (gp p i) (nx p i) (gp q j)) (crossP (gp p i) (nx p i) (nx q j)) = true := by
   unfold crossIJ at hc; exact (Bool.and_eq_true _ _ ▸ hc).1
  refine Rat.not_lt.2 (frame_lin hc1 ?_ fun y hy' => hall _ (mem_sharA.2 (.inr (.inr (mem_crosA.2 ⟨i, j, hi, hj, hc, hy'⟩)))))
  rw [← sideQ_at, ← sideQ_at, ← segQ_at, ← e, segQ_at, sideQ_l, sideQ_r]; grind
 refine meet_neg hp hq E hx hy ?_
 rw [linI_at]
 have : ((aff α β γ x : Int) : Rat) < ((0 : Int) : Rat) := by exact_mod_cast hl
 exact_mod_cast this
theorem cross_frame {p q : List Pt} {i j : Nat} (hc : crossIJ p q i j = true) : frameP (gp q j) (nx q j) (crossP (gp p i) (nx p i) (gp q j)) (crossP (gp p i) (nx p i) (nx q j)) = frameP (gp p i) (nx p i) (crossP (gp q j) (nx q j) (gp p i)) (crossP (gp q j) (nx q j) (nx p i)) := by
 unfold crossIJ at hc
 rw [Bool.and_eq_true] at hc
 exact frame_same hc.1 hc.2
theorem crosA_box {p q : List Pt} {m1 M1 m2 M2 : Int} (hb : ∀ x ∈ q, m1 ≤ x.1 ∧ x.1 ≤ M1 ∧ m2 ≤ x.2 ∧ x.2 ≤ M2) : ∀ y ∈ crosA p q, m1 ≤ y.1 ∧ y.1 ≤ M1 ∧ m2 ≤ y.2 ∧ y.2 ≤ M2 := by
 intro y hy
 obtain ⟨i, j, hi, hj, hc, hy⟩ := mem_crosA.1 hy
 unfold crossIJ at hc
 rw [Bool.and_eq_true] at hc
 exact frame_box hc.1 hy (hb _ (gp_mem hj)) (hb _ (nx_mem hj))
theorem crosA_swap {p q : List Pt} {y : Pt} : y ∈ crosA p q ↔ y ∈ crosA q p := by
 have one : ∀ {p q : List Pt}, y ∈ crosA p q → y ∈ crosA q p := fun {p q} h => by
  obtain ⟨i, j, hi, hj, hc, hy⟩ := mem_crosA.1 h
  refine mem_crosA.2 ⟨j, i, hj, hi, by rw [crossIJ_comm]; exact hc, ?_⟩
  rw [cross_frame hc] at hy; exact hy
 exact ⟨one, one⟩
theorem has_box {p : List Pt} (hp : validB p = true) {m1 M1 m2 M2 : Int} (hb : ∀ x ∈ p, m1 ≤ x.1 ∧ x.1 ≤ M1 ∧ m2 ≤ x.2 ∧ x.2 ≤ M2) {y : Pt} (hy : hasB p y = true) : m1 ≤ y.1 ∧ y.1 ≤ M1 ∧ m2 ≤ y.2 ∧ y.2 ≤ M2 := by
 have k := fun α β γ => at_corners hp hy α β γ
 have c := fun i (hi : i < p.length) => hb _ (gp_mem hi)
 have k1 := k 1 0 (-m1) (fun i hi => by have := c i hi; unfold aff; omega)
 have k2 := k (-1) 0 M1 (fun i hi => by have := c i hi; unfold aff; omega)
 have k3 := k 0 1 (-m2) (fun i hi => by have := c i hi; unfold aff; omega)
 have k4 := k 0 (-1) M2 (fun i hi => by have := c i hi; unfold aff; omega)
 unfold aff at *
 omega
theorem shar_box {p q : List Pt} (hp : validB p = true) {m1 M1 m2 M2 : Int} (hb : ∀ x ∈ p, m1 ≤ x.1 ∧ x.1 ≤ M1 ∧ m2 ≤ x.2 ∧ x.2 ≤ M2) : ∀ y, (y ∈ sharA p q ∨ y ∈ sharA q p) → m1 ≤ y.1 ∧ y.1 ≤ M1 ∧ m2 ≤ y.2 ∧ y.2 ≤ M2 := by
 intro y hy
 have : (y ∈ p ∧ hasB q y = true) ∨ (y ∈ q ∧ hasB p y = true) ∨ y ∈ crosA q p := by
  rcases hy with hy | hy
  ·rcases mem_sharA.1 hy with h | h | h
   ·exact .inl h
   ·exact .inr (.inl h)
   ·exact .inr (.inr (crosA_swap.1 h))
  ·rcases mem_sharA.1 hy with h | h | h
   ·exact .inr (.inl h)
   ·exact .inl h
   ·exact .inr (.inr h)
 rcases this with h | h | h
 ·exact hb y h.1
 ·exact has_box hp hb h.2
 ·exact crosA_box hb y h
theorem shar_place {p q : List Pt} (hp : validB p = true) : ∀ y ∈ sharA p q, placeB y = true := fun y hy =>
 place_box.2 (shar_box hp (fun x hx => place_box.1 (valid_mem hp x hx)) y (.inl hy))
end Go.Proofs.YtcdlplobniogpaaGreat
namespace Go.Proofs.YtcdlplobniogpaaGreat
open Go
def covIK (l : List (List Pt)) (i k : Nat) : Bool := (decide (k ≠ i) && withinB (gr l i) (gr l k)) && (decide (k < i) || !decide (gr l i = gr l k))
def covB (l : List (List Pt)) (i : Nat) : Bool := (List.range l.length).any (covIK l i)
def keptL (l : List (List Pt)) (n : Nat) : List (List Pt) := (List.range n).flatMap fun i => if covB l i = true then [] else [gr l i]
def keptA (l : List (List Pt)) : List (List Pt) := keptL l l.length
theorem keptL_step (l : List (List Pt)) (n : Nat) : keptL l (n + 1) = keptL l n ++ (if covB l n = true then [] else [gr l n]) := by unfold keptL; rw [List.range_succ, List.flatMap_append]; simp
theorem keptL_len (l : List (List Pt)) : ∀ n, (keptL l n).length ≤ n
 | 0 => by simp [keptL]
 | n + 1 => by
  have := keptL_len l n
  rw [keptL_step, List.length_append]
  split <;> simp <;> omega
theorem mem_keptA {l : List (List Pt)} {p : List Pt} : p ∈ keptA l ↔ ∃ i, i < l.length ∧ covB l i = false ∧ p = gr l i := by
 unfold keptA keptL
 simp only [List.mem_flatMap, List.mem_range]
 constructor
 ·rintro ⟨i, hi, h⟩
  split at h
  ·cases h
  ·rename_i hc
   exact ⟨i, hi, by simpa using hc, by simpa using h⟩
 ·rintro ⟨i, hi, hc, rfl⟩
  exact ⟨i, hi, by rw [hc]; simp⟩
theorem gr_mem {l : List (List Pt)} {i : Nat} (h : i < l.length) : gr l i ∈ l := by unfold gr; simp [h]
theorem mem_gr {l : List (List Pt)} {p : List Pt} (h : p ∈ l) : ∃ i, i < l.length ∧ gr l i = p := by
 obtain ⟨i, hi, rfl⟩ := List.getElem_of_mem h
 exact ⟨i, hi, by unfold gr; simp [hi]⟩
theorem keptA_sub {l : List (List Pt)} {p : List Pt} (h : p ∈ keptA l) : p ∈ l := by
 obtain ⟨i, hi, _, rfl⟩ := mem_keptA.1 h
 exact gr_mem hi
theorem covIK_iff {l : List (List Pt)} {i k : Nat} : covIK l i k = true ↔ (k ≠ i ∧ withinB (gr l i) (gr l k) = true) ∧ (k < i ∨ gr l i ≠ gr l k) := by
 unfold covIK
 simp only [Bool.and_eq_true, Bool.or_eq_true, decide_eq_true_eq, Bool.not_eq_true', decide_eq_false_iff_not]
theorem val_gr {l : List (List Pt)} (hV : ∀ p ∈ l, validB p = true) {i : Nat} (h : i < l.length) : validB (gr l i) = true := hV _ (gr_mem h)
end Go.Proofs.YtcdlplobniogpaaGreat
namespace Go.Proofs.YtcdlplobniogpaaGreat
open Go
def tidyB (l : List (List Pt)) : List (List Pt) := if (keptA l).length ≤ 32 then keptA l else (keptA l).take 31 ++ [octL ((keptA l).drop 31).flatten]
def regB (r : List (List Pt)) (x : Pt) : Bool := r.any fun p => hasB p x
theorem within_iff {p q : List Pt} : withinB p q = true ↔ ∀ y ∈ p, hasB q y = true := by unfold withinB; exact List.all_eq_true
theorem within_in {p q : List Pt} (hp : validB p = true) (hq : validB q = true) (h : withinB p q = true) {x : Pt} (hx : hasB p x = true) : hasB q x = true := by
 refine hl_lin (hl_of_valid hq) fun α β γ hall => ?_
 refine at_corners hp hx α β γ fun i hi => ?_
 exact at_corners hq (within_iff.1 h _ (gp_mem hi)) α β γ fun k hk => hall _ (gp_mem hk)
theorem within_refl {p : List Pt} (hp : validB p = true) : withinB p p = true := within_iff.2 fun y hy => (hl_of_valid hp).has hy
theorem within_trans {p q r : List Pt} (hq : validB q = true) (hr : validB r = true) (h1 : withinB p q = true) (h2 : withinB q r = true) : withinB p r = true :=
 within_iff.2 fun y hy => within_in hq hr h2 (within_iff.1 h1 y hy)
theorem within_anti {p q : List Pt} (hp : validB p = true) (hq : validB q = true) (h1 : withinB p q = true) (h2 : withinB q p = true) : p = q := by
 have a : Hl (p ++ q) p := hl_of_has hp (fun y hy => by
  rcases List.mem_append.1 hy with h | h
  ·exact (hl_of_valid hp).has h
  ·exact within_iff.1 h2 y h) fun y hy => List.mem_append.2 (.inl hy)
 have b : Hl (p ++ q) q := hl_of_has hq (fun y hy => by
  rcases List.mem_append.1 hy with h | h
  ·exact within_iff.1 h1 y h
  ·exact (hl_of_valid hq).has h) fun y hy => List.mem_append.2 (.inr hy)
 exact (around_eq a).symm.trans (around_eq b)
theorem covIK_trans {l : List (List Pt)} (hV : ∀ p ∈ l, validB p = true) {i k j : Nat} (hi : i < l.length) (hk : k < l.length) (hj : j < l.length) (h1 : covIK l i k = true) (h2 : covIK l k j = true) : covIK l i j = true := by
 obtain ⟨⟨a1, a2⟩, a3⟩ := covIK_iff.1 h1
 obtain ⟨⟨b1, b2⟩, b3⟩ := covIK_iff.1 h2
 have w := within_trans (val_gr hV hk) (val_gr hV hj) a2 b2
 by_cases e : gr l i = gr l j
 ·have e1 : gr l i = gr l k := within_anti (val_gr hV hi) (val_gr hV hk) a2 (by rw [e]; exact b2)
  have e2 : gr l k = gr l j := e1.symm.trans e
  have c1 : k < i := a3.resolve_right fun h => h e1
  have c2 : j < k := b3.resolve_right fun h => h e2
  exact covIK_iff.2 ⟨⟨by omega, w⟩, .inl (by omega)⟩
 ·exact covIK_iff.2 ⟨⟨fun h => e (by rw [h]), w⟩, .inr e⟩
theorem kept_over {l : List (List Pt)} (hV : ∀ p ∈ l, validB p = true) : ∀ (n i : Nat), i < l.length → ((List.range l.length).filter (covIK l i)).length ≤ n → ∃ p ∈ keptA l, withinB (gr l i) p = true
 | n, i, hi, hn => by
  by_cases hc : covB l i = true
  ·obtain ⟨k, hk, hik⟩ := List.any_eq_true.1 hc
   have hk' := List.mem_range.1 hk
   have hlt : ((List.range l.length).filter (covIK l k)).length < ((List.range l.length).filter (covIK l i)).length := by
    have hsub : ∀ j ∈ List.range l.length, covIK l k j = true → covIK l i j = true := fun j hj h => covIK_trans hV hi hk' (List.mem_range.1 hj) hik h
    have hkk : covIK l k k = false := by
     cases h : covIK l k k with
     | false => rfl
     | true => exact absurd rfl (covIK_iff.1 h).1.1
    have key : ∀ r : List Nat, (∀ j ∈ r, covIK l k j = true → covIK l i j = true) → (r.filter (covIK l k)).length ≤ (r.filter (covIK l i)).length ∧ (k ∈ r → (r.filter (covIK l k)).length < (r.filter (covIK l i)).length) := by
     intro r
     induction r with
     | nil => intro _; exact ⟨Nat.le_refl _, fun h => by cases h⟩
     | cons j r ih =>
      intro h
      obtain ⟨h1, h2⟩ := ih fun j hj => h j (List.mem_cons_of_mem _ hj)
      have hj := h j List.mem_cons_self
      simp only [List.filter_cons]
      cases ck : covIK l k j with
      | true =>
       rw [hj ck]
       simp only [if_true, List.length_cons]
       refine ⟨by omega, fun hm => ?_⟩
       rcases List.mem_cons.1 hm with rfl | hm
       ·rw [hkk] at ck; cases ck
       ·have := h2 hm; omega
      | false =>
       cases ci : covIK l i j with
       | true =>
        simp only [if_true, Bool.false_eq_true, if_false, List.length_cons]
        exact ⟨by omega, fun _ => by omega⟩
       | false =>
        simp only [Bool.false_eq_true, if_false]
        refine ⟨h1, fun hm => ?_⟩
        rcases List.mem_cons.1 hm with rfl | hm
        ·rw [hik] at ci; cases ci
        ·exact h2 hm
    exact (key _ hsub).2 hk
   match n, hn with
   | 0, hn => omega
   | n + 1, hn =>
    obtain ⟨p, hp, hw⟩ := kept_over hV n k hk' (by omega)
    exact ⟨p, hp, within_trans (val_gr hV hk') (hV p (keptA_sub hp)) (covIK_iff.1 hik).1.2 hw⟩
  ·exact ⟨gr l i, mem_keptA.2 ⟨i, hi, by simpa using hc, rfl⟩, within_refl (val_gr hV hi)⟩
theorem regB_iff {r : List (List Pt)} {x : Pt} : regB r x = true ↔ ∃ p ∈ r, hasB p x = true := by unfold regB; exact List.any_eq_true
theorem kept_has {l : List (List Pt)} (hV : ∀ p ∈ l, validB p = true) (x : Pt) : regB (keptA l) x = regB l x := by
 rw [Bool.eq_iff_iff, regB_iff, regB_iff]
 constructor
 ·rintro ⟨p, hp, hx⟩; exact ⟨p, keptA_sub hp, hx⟩
 ·rintro ⟨p, hp, hx⟩
  obtain ⟨i, hi, rfl⟩ := mem_gr hp
  obtain ⟨q, hq, hw⟩ := kept_over hV _ i hi (Nat.le_refl _)
  exact ⟨q, hq, within_in (val_gr hV hi) (hV q (keptA_sub hq)) hw hx⟩
theorem flat_ne {l : List (List Pt)} (hV : ∀ p ∈ l, validB p = true) (h : l ≠ []) : l.flatten ≠ [] := by
 cases l with
 | nil => exact absurd rfl h
 | cons p l =>
  intro e
  have := (len_one (hV p List.mem_cons_self)).1
  rw [List.flatten_cons, List.append_eq_nil_iff] at e
  rw [e.1] at this; simp at this
theorem flat_place {l : List (List Pt)} (hV : ∀ p ∈ l, validB p = true) : ∀ x ∈ l.flatten, placeB x = true := fun x hx => by
 obtain ⟨p, hp, hx⟩ := List.mem_flatten.1 hx
 exact valid_mem (hV p hp) x hx
theorem tidy_rest {l : List (List Pt)} (hV : ∀ p ∈ l, validB p = true) (h : ¬ (keptA l).length ≤ 32) : (∀ p ∈ (keptA l).drop 31, validB p = true) ∧ ((keptA l).drop 31).flatten ≠ [] ∧ ∀ x ∈ ((keptA l).drop 31).flatten, placeB x = true := by
 have hv : ∀ p ∈ (keptA l).drop 31, validB p = true := fun p hp => hV p (keptA_sub (List.mem_of_mem_drop hp))
 refine ⟨hv, flat_ne hv fun e => ?_, flat_place hv⟩
 have := congrArg List.length e
 rw [List.length_drop] at this
 simp at this; omega
theorem tidy_valid {l : List (List Pt)} (hV : ∀ p ∈ l, validB p = true) : ∀ p ∈ tidyB l, validB p = true := by
 intro p hp
 unfold tidyB at hp
 split at hp
 ·exact hV p (keptA_sub hp)
 ·rename_i hn
  obtain ⟨h1, h2, h3⟩ := tidy_rest hV hn
  rcases List.mem_append.1 hp with h | h
  ·exact hV p (keptA_sub (List.mem_of_mem_take h))
  ·rw [List.mem_singleton.1 h]
   exact (oct_spec h2 h3).2.1
theorem tidy_len (l : List (List Pt)) : (tidyB l).length ≤ 32 := by
 unfold tidyB
 split
 ·assumption
 ·rw [List.length_append, List.length_take]; simp; omega
theorem tidy_region {l : List (List Pt)} (hV : ∀ p ∈ l, validB p = true) : regionB (tidyB l) = true := by
 unfold regionB
 rw [decide_eq_true (tidy_len l), Bool.true_and, List.all_eq_true]
 exact tidy_valid hV
theorem lin_of_corners {p l : List Pt} (hp : validB p = true) {x : Pt} (hx : hasB p x = true) (h : ∀ y ∈ p, y ∈ l) : linIn l x := fun α β γ hall =>
 at_corners hp hx α β γ fun i hi => hall _ (h _ (gp_mem hi))
theorem tidy_has {l : List (List Pt)} (hV : ∀ p ∈ l, validB p = true) {x : Pt} (h : regB l x = true) : regB (tidyB l) x = true := by
 rw [← kept_has hV] at h
 unfold tidyB
 split
 ·exact h
 ·rename_i hn
  obtain ⟨h1, h2, h3⟩ := tidy_rest hV hn
  obtain ⟨p, hp, hx⟩ := regB_iff.1 h
  rw [← List.take_append_drop 31 (keptA l)] at hp
  rcases List.mem_append.1 hp with hp | hp
  ·exact regB_iff.2 ⟨p, List.mem_append.2 (.inl hp), hx⟩
  ·refine regB_iff.2 ⟨_, List.mem_append.2 (.inr (List.mem_singleton.2 rfl)), ?_⟩
   refine (oct_spec h2 h3).2.2.2.2 x (lin_b8 h2 (lin_of_corners (h1 p hp) hx fun y hy => List.mem_flatten.2 ⟨p, hp, hy⟩))
theorem oct_box {l : List Pt} (hne : l ≠ []) (hP : ∀ x ∈ l, placeB x = true) {m1 M1 m2 M2 : Int} (hb : ∀ x ∈ l, m1 ≤ x.1 ∧ x.1 ≤ M1 ∧ m2 ≤ x.2 ∧ x.2 ≤ M2) : ∀ y ∈ octL l, m1 ≤ y.1 ∧ y.1 ≤ M1 ∧ m2 ≤ y.2 ∧ y.2 ≤ M2 := by
 intro y hy
 obtain ⟨h1, _, _, h4, _⟩ := oct_spec hne hP
 have hx := h4.pts_has y (h1.sub y hy)
 unfold B8.has at hx
 obtain ⟨y1, m1', e1⟩ := (lo_spec fX (ne_len hne)).2
 obtain ⟨y2, m2', e2⟩ := (hi_spec fX (ne_len hne)).2
 obtain ⟨y3, m3', e3⟩ := (lo_spec fY (ne_len hne)).2
 obtain ⟨y4, m4', e4⟩ := (hi_spec fY (ne_len hne)).2
 have b1 := hb y1 m1'
 have b2 := hb y2 m2'
 have b3 := hb y3 m3'
 have b4 := hb y4 m4'
 unfold fX at e1 e2
 unfold fY at e3 e4
 have f1 : (b8 l).a = y1.1 := e1
 have f2 : (b8 l).b = y2.1 := e2
 have f3 : (b8 l).c = y3.2 := e3
 have f4 : (b8 l).d = y4.2 := e4
 omega
def boxR (m1 M1 m2 M2 : Int) (r : List (List Pt)) : Prop := ∀ p ∈ r, ∀ x ∈ p, m1 ≤ x.1 ∧ x.1 ≤ M1 ∧ m2 ≤ x.2 ∧ x.2 ≤ M2
theorem tidy_box {l : List (List Pt)} (hV : ∀ p ∈ l, validB p = true) {m1 M1 m2 M2 : Int} (hb : boxR m1 M1 m2 M2 l) : boxR m1 M1 m2 M2 (tidyB l) := by
 intro p hp
 unfold tidyB at hp
 split at hp
 ·exact hb p (keptA_sub hp)
 ·rename_i hn
  obtain ⟨h1, h2, h3⟩ := tidy_rest hV hn
  rcases List.mem_append.1 hp with h | h
  ·exact hb p (keptA_sub (List.mem_of_mem_take h))
  ·rw [List.mem_singleton.1 h]
   refine oct_box h2 h3 fun x hx => ?_
   obtain ⟨q, hq, hx⟩ := List.mem_flatten.1 hx
   exact hb q (keptA_sub (List.mem_of_mem_drop hq)) x hx
theorem oct_eights {l : List (List Pt)} (hV : ∀ p ∈ l, validB p = true) (hne : l ≠ []) : octL (l.flatMap eightP) = octL l.flatten := by
 have e : b8 (l.flatMap eightP) = b8 l.flatten := by
  have n2 := flat_ne hV hne
  have n1 : l.flatMap eightP ≠ [] := by
   cases l with
   | nil => exact absurd rfl hne
   | cons p l =>
    intro e
    have := (len_one (eight_spec (hV p List.mem_cons_self)).2.1).1
    rw [List.flatMap_cons, List.append_eq_nil_iff] at e
    rw [e.1] at this; simp at this
  refine b8_ext (ne_len n1) (ne_len n2) (fun x hx => ?_) fun x hx => ?_
  ·obtain ⟨p, hp, hx⟩ := List.mem_flatMap.1 hx
   have s := eight_spec (hV p hp)
   refine b8_mono (len_one (hV p hp)).1 (ne_len n2) (fun z hz => b8_has (ne_len n2) z (List.mem_flatten.2 ⟨p, hp, hz⟩)) ?_
   rw [← s.2.2.2.1]; exact b8_has (len_one s.2.1).1 x hx
  ·obtain ⟨p, hp, hx⟩ := List.mem_flatten.1 hx
   have s := eight_spec (hV p hp)
   refine b8_mono (len_one s.2.1).1 (ne_len n1) (fun z hz => b8_has (ne_len n1) z (List.mem_flatMap.2 ⟨p, hp, hz⟩)) ?_
   rw [s.2.2.2.1]; exact b8_has (len_one (hV p hp)).1 x hx
 unfold octL
 rw [e]
end Go.Proofs.YtcdlplobniogpaaGreat
namespace Go.Proofs.YtcdlplobniogpaaGreat
open Go Go.V Go.RowKit
theorem ext_gp2 {ps qs : List Pt} (hl : ps.length = qs.length) (h : ∀ j, j < ps.length → gp ps j = gp qs j) : ps = qs := by
 refine List.ext_getElem hl fun i h1 h2 => ?_
 have := h i h1
 simpa [gp, h1, h2] using this
theorem SEqual_fn (v w : Value) (ps qs : List Pt) (M : Mem) (hv : Pts M v ps) (hw : Pts M w qs) : FnP Tryz.prog 171 [v, w] M [.bool (decide (ps = qs))] := by
 obtain ⟨ad, c, rfl⟩ := hv.shape
 obtain ⟨bd, d, rfl⟩ := hw.shape
 obtain ⟨_, hm, hrd⟩ := hv.cellsOf
 obtain ⟨_, hm', hrd'⟩ := hw.cellsOf
 unfold maxLen at hm hm'
 refine Fn.of_vc cxOK Tryz.func171 rfl rfl rfl ?_
 refine VIf.mk (fun h => ?_) (fun h => ?_)
 ·have h := ne_of_bne h
  refine VFact.mk ⟨?_, rfl⟩ trivial
  rw [decide_eq_false (fun e => h (by rw [e]))]
 have hl : ps.length = qs.length := eq_of_bne h
 refine VCode.loop cxOK Nat (fun i => ⟨[(0, .v (.slice ad ps.length c)), (1, .v (.slice bd qs.length d)), (12, .v (.int .i64 ps.length)), (13, .v (.int .i64 i))], [], 0, M, 26, ⟨fun _ => none, none, fun _ => none⟩⟩)
  (fun i => i ≤ ps.length ∧ ∀ j, j < i → gp ps j = gp qs j) (fun i => ps.length - i) 0 ⟨Nat.zero_le _, fun j hj => by omega⟩ (Wk.mk' id (by repeat' constructor) (by repeat' constructor) (injOK_id _) rfl rfl rfl) ?_
 rintro i ⟨hi, hz⟩ m
 refine VIf.mk (fun hlt => ?_) (fun hge => ?_)
 ·have hlt : i < ps.length := lt_of_dec hlt
  obtain ⟨a1, e1, r1⟩ := hrd M (Mem.le_refl _) i hlt
  obtain ⟨a2, e2, r2⟩ := hrd' M (Mem.le_refl _) i (by omega)
  refine VDraw.go (by kernel_rfl) ?_
  refine VIdx.mk a1 i e1 rfl hlt ?_
  refine VReads.mk [.int .i64 (gp ps i).1, .int .i64 (gp ps i).2] rfl r1 ?_
  refine VIdx.mk a2 i e2 rfl (by omega) ?_
  refine VReads.mk [.int .i64 (gp qs i).1, .int .i64 (gp qs i).2] rfl r2 ?_
  refine VIf.mk (fun hd => ?_) (fun hd => ?_)
  ·refine VFact.mk ⟨?_, rfl⟩ trivial
   rw [decide_eq_false (fun e => by rw [e] at hd; simp [eqRes] at hd)]
  ·refine VArith.ok (by first | omega | (simp only; omega)) (by first | omega | (simp only; omega)) ?_
   refine ⟨i + 1, ⟨hlt, fun j hj => ?_⟩, (by first | omega | (simp only; omega)), (Wk.mk' id (by repeat' constructor) (by repeat' constructor) (injOK_id _) rfl rfl rfl)⟩
   by_cases e : j = i
   ·subst e
    simp only [eqRes, Bool.not_eq_false', Bool.and_eq_true, beq_iff_eq] at hd
    exact Prod.ext hd.1 hd.2
   ·exact hz j (by omega)
 ·have : i = ps.length := by have := ge_of_dec hge; omega
  subst this
  refine VFact.mk ⟨?_, rfl⟩ trivial
  rw [decide_eq_true (ext_gp2 hl hz)]
theorem covB_no {l : List (List Pt)} {i : Nat} (h : ∀ j, j < l.length → covIK l i j = false) : covB l i = false := by
 unfold covB
 exact List.any_eq_false.2 fun j hj => by rw [h j (List.mem_range.1 hj)]; decide
theorem covB_yes {l : List (List Pt)} {i k : Nat} (hk : k < l.length) (h : covIK l i k = true) : covB l i = true := by
 unfold covB
 exact List.any_eq_true.2 ⟨k, List.mem_range.2 hk, h⟩
theorem int_ne {k i : Nat} : ((k : Int) != (i : Int)) = decide (k ≠ i) := by
 rw [Bool.eq_iff_iff]; simp only [bne_iff_ne, ne_eq, decide_eq_true_eq]; omega
theorem int_lt {k i : Nat} : decide ((k : Int) < (i : Int)) = decide (k < i) := decide_eq_decide.2 (by omega)
set_option maxHeartbeats 2000000 in
theorem covered_fn (B : Nat) (v : Value) (l : List (List Pt)) (i : Nat) (M : Mem) (hB : M B = some (.cells #[v] 121 (0, 0))) (hv : RegV M v l) (hV : ∀ p ∈ l, validB p = true) (hi : i < l.length) :
  V.Fn Tryz.prog 134 [.pointer (some ⟨B, 0, none⟩), .int .i64 i] M fun rs _ => rs = [.bool (covB l i)] := by
 obtain ⟨ad, c, rfl, hm, hrd⟩ := hv.get
 refine Fn.of_vc cxOK Tryz.func134 rfl rfl rfl ?_
 refine VRead.mk (.slice ad l.length c) (cellAt hB 0 rfl) ?_
 refine VCode.loop cxOK (Nat × Mem) (fun (⟨k, M1⟩ : Nat × Mem) => ⟨[(0, .v (.pointer (some ⟨B, 0, none⟩))), (1, .v (.int .i64 i)), (13, .v (.slice ad l.length c)), (14, .v (.int .i64 l.length)), (15, .v (.int .i64 k))], [], 0, M1, 58, ⟨fun _ => none, none, fun _ => none⟩⟩)
  (fun (⟨k, M1⟩ : Nat × Mem) => (M.le M1 ∧ k ≤ l.length) ∧ ∀ j, j < k → covIK l i j = false) (fun (⟨k, _⟩ : Nat × Mem) => l.length - k) (0, M) ⟨⟨Mem.le_refl _, Nat.zero_le _⟩, fun j hj => absurd hj (Nat.not_lt_zero _)⟩ (Wk.mk' id (by repeat' constructor) (by repeat' constructor) (injOK_id _) rfl rfl rfl) ?_
 rintro ⟨k, M1⟩ ⟨⟨hM1, hk⟩, hz⟩ m
 refine VIf.mk (fun hlt => ?_) (fun hge => ?_)
 rotate_left
 ·have : k = l.length := by have := ge_of_dec hge; omega
  subst this
  refine VFact.mk ?_ trivial
  rw [covB_no hz]
 have hlt : k < l.length := lt_of_dec hlt
 obtain ⟨a1, w1, e1, p1, q1, c1⟩ := hrd M1 hM1 k hlt
 obtain ⟨a2, w2, e2, p2, q2, c2⟩ := hrd M1 hM1 i hi
 refine VIdx.mk a1 k e1 rfl hlt ?_
 refine VRead.mk w1 c1 ?_
 refine VRead.mk (.slice ad l.length c) (cellAt (hM1 _ _ hB) 0 rfl) ?_
 refine VIdx.mk a2 i e2 rfl hi ?_
 refine VRead.mk w2 c2 ?_
 refine VFn.mk _ (Within_fn w2 w1 (gr l i) (gr l k) M1 p2 p1 q2 q1) ?_
 rintro rs M2 hM2 rfl
 rw [val_gr hV hi, val_gr hV hlt]
 have m2 := hM1.trans hM2
 have c3 := Mem.cell_le hM2 c2
 refine VIf.mk (fun hne => ?_) (fun hne => ?_)
 rotate_left
 ·repeat (first | refine VIf.tt ?_ | refine VIf.ff ?_)
  rw [int_ne] at hne
  refine VArith.ok (by first | omega | (simp only; omega)) (by first | omega | (simp only; omega)) ?_
  refine ⟨(k + 1, M2), ⟨⟨m2, hlt⟩, fun j hj => ?_⟩, (by first | omega | (simp only; omega)), (Wk.mk' id (by repeat' constructor) (by repeat' constructor) (injOK_id _) rfl rfl rfl)⟩
  by_cases ej : j = k
  ·subst ej
   unfold covIK
   rw [hne, Bool.false_and, Bool.false_and]
  ·exact hz j (by omega)
 repeat (first | refine VIf.tt ?_ | refine VIf.ff ?_)
 rw [int_ne] at hne
 refine VIf.mk (fun hw => ?_) (fun hw => ?_)
 rotate_left
 ·repeat (first | refine VIf.tt ?_ | refine VIf.ff ?_)
  have hw : withinB (gr l i) (gr l k) = false := hw
  refine VArith.ok (by first | omega | (simp only; omega)) (by first | omega | (simp only; omega)) ?_
  refine ⟨(k + 1, M2), ⟨⟨m2, hlt⟩, fun j hj => ?_⟩, (by first | omega | (simp only; omega)), (Wk.mk' id (by repeat' constructor) (by repeat' constructor) (injOK_id _) rfl rfl rfl)⟩
  by_cases ej : j = k
  ·subst ej
   unfold covIK
   rw [hw, Bool.and_false, Bool.false_and]
  ·exact hz j (by omega)
 repeat (first | refine VIf.tt ?_ | refine VIf.ff ?_)
 have hw : withinB (gr l i) (gr l k) = true := hw
 refine VIf.mk (fun hl => ?_) (fun hl => ?_)
 ·repeat (first | refine VIf.tt ?_ | refine VIf.ff ?_)
  rw [int_lt] at hl
  refine VFact.mk ?_ trivial
  rw [covB_yes hlt (by unfold covIK; rw [hne, hw, hl]; rfl)]
 repeat (first | refine VIf.tt ?_ | refine VIf.ff ?_)
 rw [int_lt] at hl
 refine VRead.mk (.slice ad l.length c) (cellAt (m2 _ _ hB) 0 rfl) ?_
 repeat (first | refine VIf.tt ?_ | refine VIf.ff ?_)
 refine VIdx.mk a2 i e2 rfl hi ?_
 repeat (first | refine VIf.tt ?_ | refine VIf.ff ?_)
 refine VRead.mk w2 c3 ?_
 repeat (first | refine VIf.tt ?_ | refine VIf.ff ?_)
 refine VFn.p (SEqual_fn w2 w1 _ _ M2 (p2.le hM2) (p1.le hM2)) ?_
 repeat (first | refine VIf.tt ?_ | refine VIf.ff ?_)
 refine VIf.mk (fun he => ?_) (fun he => ?_)
 ·refine VFact.mk ?_ trivial
  have he : (!decide (gr l i = gr l k)) = true := he
  rw [covB_yes hlt (by unfold covIK; rw [hne, hw, he, Bool.or_true]; rfl)]
 ·have he : (!decide (gr l i = gr l k)) = false := he
  refine VArith.ok (by first | omega | (simp only; omega)) (by first | omega | (simp only; omega)) ?_
  refine ⟨(k + 1, M2), ⟨⟨m2, hlt⟩, fun j hj => ?_⟩, (by first | omega | (simp only; omega)), (Wk.mk' id (by repeat' constructor) (by repeat' constructor) (injOK_id _) rfl rfl rfl)⟩
  by_cases ej : j = k
  ·subst ej
   unfold covIK
   rw [hl, he, Bool.or_false, Bool.and_false]
  ·exact hz j (by omega)
end Go.Proofs.YtcdlplobniogpaaGreat
namespace Go.Proofs.YtcdlplobniogpaaGreat
open Go
structure FlowS where
 x : Int
 y : Int
 s : Int
 ul : Int
 uh : Int
 vl : Int
 vh : Int
 hl : Int
 hh : Int
def zeroF : FlowS := ⟨0, 0, 0, 0, 0, 0, 0, 0, 0⟩
def gf (l : List FlowS) (i : Nat) : FlowS := l.getD i zeroF
end Go.Proofs.YtcdlplobniogpaaGreat
namespace Go.Proofs.YtcdlplobniogpaaGreat
open Go Go.V Go.RowKit
theorem div_spec {a b : Int} (hb : 0 < b) : (a.tmod b < 0 → a.tdiv b - 1 = a / b ∧ a.tmod b + b = a % b) ∧ (0 ≤ a.tmod b → a.tdiv b = a / b ∧ a.tmod b = a % b) := by
 have h1 := Int.tmod_add_mul_tdiv a b
 have h2 := Int.tmod_lt_of_pos a hb
 have h3 : -b < a.tmod b := by
  by_cases ha : 0 ≤ a
  ·have := Int.tmod_nonneg b ha; omega
  ·have h := Int.tmod_lt_of_pos (-a) hb
   rw [Int.neg_tmod] at h; omega
 refine ⟨fun h => ?_, fun h => ?_⟩
 ·have := (Int.ediv_emod_unique hb (a := a) (r := a.tmod b + b) (q := a.tdiv b - 1)).2 ⟨by rw [Int.mul_sub]; omega, by omega, by omega⟩
  exact ⟨this.1.symm, this.2.symm⟩
 ·have := (Int.ediv_emod_unique hb (a := a) (r := a.tmod b) (q := a.tdiv b)).2 ⟨by omega, by omega, by omega⟩
  exact ⟨this.1.symm, this.2.symm⟩
end Go.Proofs.YtcdlplobniogpaaGreat
namespace Go.Proofs.YtcdlplobniogpaaGreat
open Go Go.V Go.RowKit
theorem turnC_fn (ax ay bx by' cx' cy : Int) (M : Mem) (h1 : isC ax) (h2 : isC ay) (h3 : isC bx) (h4 : isC by') (h5 : isC cx') (h6 : isC cy) :
  FnP Tryz.prog 177 [pt ax ay, pt bx by', pt cx' cy] M [.int .i64 (cross ax ay bx by' cx' cy)] := by
 unfold isC at *
 have p1 := bd12 (a := bx - ax) (b := cy - ay) (by omega) (by omega) (by omega) (by omega)
 have p2 := bd12 (a := by' - ay) (b := cx' - ax) (by omega) (by omega) (by omega) (by omega)
 refine Fn.of_vc cxOK Tryz.func177 rfl rfl rfl ?_
 refine VArith.ok (by omega) (by omega) ?_
 refine VArith.ok (by omega) (by omega) ?_
 refine VArith.ok (by omega) (by omega) ?_
 refine VArith.ok (by omega) (by omega) ?_
 refine VArith.ok (by omega) (by omega) ?_
 refine VArith.ok (by omega) (by omega) ?_
 refine VArith.ok (by omega) (by omega) ?_
 exact VFact.mk ⟨rfl, rfl⟩ trivial
theorem sidesC_fn (ad : Option Addr) (n c : Nat) (M : Mem) : V.Fn Tryz.prog 162 [.slice ad n c] M fun rs M' => ∃ B, rs = [.func (.func 188) #[] #[.pointer (some ⟨B, 0, none⟩)]] ∧ M' B = some (.cells #[.slice ad n c] 64 (0, 0)) := by
 refine Fn.of_vc cxOK Tryz.func162 rfl rfl rfl ?_
 refine VFzB.mk fun x B M' hle hB => ?_
 exact VFact.mk ⟨B, rfl, hB⟩ trivial
theorem sidesC_iter (M : Mem) (B : Nat) (v : Value) (ps : List Pt) (hB : M B = some (.cells #[v] 64 (0, 0))) (hv : Pts M v ps) :
  Iter Tryz.prog 188 #[.pointer (some ⟨B, 0, none⟩)] M (sidesL ps) := by
 obtain ⟨ad, c, rfl, hc, hm, hl, h1, hcell⟩ := hv
 refine Iter.of_vc cxOK Tryz.func188 rfl rfl rfl rfl fun l => ?_
 refine VRead.mk _ (box1 hB) ?_
 refine VCode.loopG cxOK (fun m => m = fun _ => none) rfl Nat
  (fun i => ⟨[(0, .v (.func (.yield l) #[] #[])), (1, .v (.pointer (some ⟨B, 0, none⟩))), (5, .v (.slice ad ps.length c)), (6, .v (.int .i64 ps.length)), (7, .v (.int .i64 i))], [], 0, M, 25, ⟨fun _ => none, some (l, (sidesL ps).drop i), fun _ => none⟩⟩)
  (fun i => i ≤ ps.length) (fun i => ps.length - i) 0 (Nat.zero_le _) ?_ ?_
 ·exact Wk.mk' id ⟨⟨rfl, rfl⟩, ⟨rfl, rfl⟩, ⟨rfl, rfl⟩, ⟨rfl, rfl⟩, ⟨rfl, rfl⟩, trivial⟩ trivial trivial rfl rfl rfl
 rintro i hi m rfl
 refine VIf.mk (fun hlt => ?_) (fun hge => ?_)
 ·have hlt : i < ps.length := by simpa using hlt
  obtain ⟨ad', rfl, hrd⟩ := hcell (by omega)
  have hpt : ∀ k, k < ps.length → ∀ j v, [Value.int .i64 (ps.getD k (0,0)).1, .int .i64 (ps.getD k (0,0)).2][j]? = some v → M.cell ((ad'.add (k * 2)).add j) = some v := by
   intro k hk j v hj
   obtain ⟨g1, g2⟩ := cellsP_get ps k hk
   rw [show (ad'.add (k * 2)).add j = ad'.add (2 * k + j) by rw [Addr.add_add]; congr 1; omega]
   refine hrd _ _ ?_
   match j, hj with
   | 0, hj => rw [← hj]; exact g1
   | 1, hj => rw [← hj]; exact g2
   | j + 2, hj => simp at hj
  refine VIdx.mk ad' i rfl rfl hlt ?_
  refine VReads.mk [.int .i64 (ps.getD i (0,0)).1, .int .i64 (ps.getD i (0,0)).2] rfl (hpt i hlt) ?_
  refine VDraw.go (by kernel_rfl) ?_
  have hmod : (i + 1) % ps.length < ps.length := Nat.mod_lt _ (by omega)
  refine VRead.mk _ (box1 hB) ?_
  conv => whnf
  refine VArith.ok (by omega) (by unfold maxLen at hm; omega) ?_
  refine VRead.mk _ (box1 hB) ?_
  conv => whnf
  refine VDiv.mk (by omega) ?_
  refine VIdx.mk ad' ((i + 1) % ps.length) rfl ?_ hmod ?_
  ·rw [Int.tmod_eq_emod_of_nonneg (by omega)]; simp
  refine VReads.mk [.int .i64 (ps.getD ((i + 1) % ps.length) (0,0)).1, .int .i64 (ps.getD ((i + 1) % ps.length) (0,0)).2] rfl (hpt _ hmod) ?_
  refine VYield.mk ((sidesL ps).drop (i + 1)) ?_ ?_ ?_
  ·simp only [Gh.mk.injEq, and_true, true_and, Option.some.injEq, Prod.mk.injEq]
   rw [List.drop_eq_getElem_cons (by simpa [sidesL] using hlt)]
   simp [sidesL, ptv, pt]
  ·refine VIf.ff ?_
   refine VArith.ok (by omega) (by unfold maxLen at hm; omega) ?_
   exact ⟨rfl, i + 1, hlt, by omega, Wk.mk' id ⟨⟨rfl, rfl⟩, ⟨rfl, rfl⟩, ⟨rfl, rfl⟩, ⟨rfl, rfl⟩, ⟨rfl, rfl⟩, trivial⟩ trivial trivial rfl rfl rfl⟩
  ·refine VIf.tt ?_
   exact VEnd.stop rfl
 ·have hge : i = ps.length := by
   have : ¬ ((i : Int) < (ps.length : Int)) := by simpa using hge
   omega
  subst hge
  exact VEnd.all (by simp [sidesL])
def halfB (A B C : Int) : Bool := decide (-1000000 ≤ A ∧ A ≤ 1000000) && decide (-1000000 ≤ B ∧ B ≤ 1000000) && decide (-1000000000000 ≤ C ∧ C ≤ 1000000000000) && !(decide (A = 0) && decide (B = 0))
def hv (A B C : Int) : Value := .agg #[.int .i64 A, .int .i64 B, .int .i64 C]
theorem small_fn (n m : Int) (M : Mem) (hm : 0 ≤ m ∧ m ≤ 1000000000000) : FnP Tryz.prog 185 [.int .i64 n, .int .i64 m] M [.bool (decide (-m ≤ n ∧ n ≤ m))] := by
 refine Fn.of_vc cxOK Tryz.func185 rfl rfl rfl ?_
 refine VArith.ok (by first | omega | (simp only; omega)) (by first | omega | (simp only; omega)) ?_
 refine VIf.mk (fun h => ?_) (fun h => ?_)
 ·have h := of_decide_eq_true h
  repeat (first | refine VIf.tt ?_ | refine VIf.ff ?_)
  refine VFact.mk ⟨?_, rfl⟩ trivial
  exact congrArg (fun b => [Value.bool b]) (decide_eq_decide.2 ⟨fun h' => ⟨h, h'⟩, fun h' => h'.2⟩)
 ·have h := of_decide_eq_false h
  repeat (first | refine VIf.tt ?_ | refine VIf.ff ?_)
  refine VFact.mk ⟨?_, rfl⟩ trivial
  rw [decide_eq_false (by omega)]
set_option maxRecDepth 20000 in
theorem halfValid_fn (A B C : Int) (M : Mem) : FnP Tryz.prog 157 [hv A B C] M [.bool (halfB A B C)] := by
 refine Fn.of_vc cxOK Tryz.func157 rfl rfl rfl ?_
 refine VFn.p (small_fn A 1000000 M (by decide)) ?_
 have e : ∀ {b1 b2 b3 : Bool}, decide (-1000000 ≤ A ∧ A ≤ 1000000) = b1 → decide (-1000000 ≤ B ∧ B ≤ 1000000) = b2 → decide (-1000000000000 ≤ C ∧ C ≤ 1000000000000) = b3 → halfB A B C = (b1 && b2 && b3 && !(decide (A = 0) && decide (B = 0))) := fun h1 h2 h3 => by unfold halfB; rw [h1, h2, h3]
 refine VIf.mk (fun h1 => ?_) (fun h1 => ?_)
 rotate_left
 ·repeat (first | refine VIf.tt ?_ | refine VIf.ff ?_)
  refine VFact.mk ⟨?_, rfl⟩ trivial
  rw [e h1 rfl rfl]; simp
 repeat (first | refine VIf.tt ?_ | refine VIf.ff ?_)
 refine VFn.p (small_fn B 1000000 M (by decide)) ?_
 repeat (first | refine VIf.tt ?_ | refine VIf.ff ?_)
 refine VIf.mk (fun h2 => ?_) (fun h2 => ?_)
 rotate_left
 ·repeat (first | refine VIf.tt ?_ | refine VIf.ff ?_)
  refine VFact.mk ⟨?_, rfl⟩ trivial
  rw [e h1 h2 rfl]; simp
 repeat (first | refine VIf.tt ?_ | refine VIf.ff ?_)
 refine VFn.p (small_fn C 1000000000000 M (by decide)) ?_
 repeat (first | refine VIf.tt ?_ | refine VIf.ff ?_)
 refine VIf.mk (fun h3 => ?_) (fun h3 => ?_)
 rotate_left
 ·repeat (first | refine VIf.tt ?_ | refine VIf.ff ?_)
  refine VFact.mk ⟨?_, rfl⟩ trivial
  rw [e h1 h2 h3]; simp
 repeat (first | refine VIf.tt ?_ | refine VIf.ff ?_)
 refine VIf.mk (fun h4 => ?_) (fun h4 => ?_)
 ·repeat (first | refine VIf.tt ?_ | refine VIf.ff ?_)
  refine VFact.mk ⟨?_, rfl⟩ trivial
  rw [e h1 h2 h3, decide_eq_false (by simpa using h4)]; simp
 ·repeat (first | refine VIf.tt ?_ | refine VIf.ff ?_)
  refine VFact.mk ⟨?_, rfl⟩ trivial
  have h4 : A = 0 := by simpa using h4
  rw [e h1 h2 h3, decide_eq_true h4]
  have : (B != 0) = !decide (B = 0) := by by_cases g : B = 0 <;> simp [g]
  simp only [this, Bool.true_and, List.cons.injEq, Value.bool.injEq, and_true]
theorem over_fn (A B C : Int) (x : Pt) (M : Mem) (h : halfB A B C = true) (hx : placeB x = true) : FnP Tryz.prog 159 [hv A B C, ptv x] M [.int .i64 (ovr A B C x)] := by
 have hp := place_C hx
 unfold isC at hp
 simp only [halfB, Bool.and_eq_true, decide_eq_true_eq] at h
 have e1 := mul_bd (a := A) (b := x.1) 1000000 500000 (by omega) (by omega) (by omega) (by omega) (by omega) (by omega)
 have e2 := mul_bd (a := B) (b := x.2) 1000000 500000 (by omega) (by omega) (by omega) (by omega) (by omega) (by omega)
 refine Fn.of_vc cxOK Tryz.func159 rfl rfl rfl ?_
 refine VArith.ok (by first | omega | (simp only; omega)) (by first | omega | (simp only; omega)) ?_
 refine VArith.ok (by first | omega | (simp only; omega)) (by first | omega | (simp only; omega)) ?_
 refine VArith.ok (by first | omega | (simp only; omega)) (by first | omega | (simp only; omega)) ?_
 refine VArith.ok (by first | omega | (simp only; omega)) (by first | omega | (simp only; omega)) ?_
 exact VFact.mk ⟨rfl, rfl⟩ trivial
theorem ovr_bd {A B C : Int} {x : Pt} (h : halfB A B C = true) (hx : placeB x = true) : -2000000000000 ≤ ovr A B C x ∧ ovr A B C x ≤ 2000000000000 := by
 have hp := place_C hx
 unfold isC at hp
 simp only [halfB, Bool.and_eq_true, decide_eq_true_eq] at h
 have e1 := mul_bd (a := A) (b := x.1) 1000000 500000 (by omega) (by omega) (by omega) (by omega) (by omega) (by omega)
 have e2 := mul_bd (a := B) (b := x.2) 1000000 500000 (by omega) (by omega) (by omega) (by omega) (by omega) (by omega)
 unfold ovr; omega
theorem crossesC_fn (s t : Int) (M : Mem) : FnP Tryz.prog 160 [.int .i64 s, .int .i64 t] M [.bool (crossesB s t)] := by
 refine Fn.of_vc cxOK Tryz.func160 rfl rfl rfl ?_
 repeat' (first | refine VIf.tt ?_ | refine VIf.ff ?_ | refine VIf.mk (fun _ => ?_) (fun _ => ?_) | refine VFact.mk ?_ trivial)
 all_goals (refine ⟨bool1 ?_, rfl⟩; simp only [crosses_iff, Bool.and_eq_true, decide_eq_true_eq, decide_eq_false_iff_not, Bool.false_eq_true, false_iff, true_iff] at *; omega)
theorem flr_pos {a b : Int} (hb : 0 < b) : ((a.tmod b ≠ 0 ∧ a < 0) → a.tdiv b - 1 = flr a b) ∧ (¬ (a.tmod b ≠ 0 ∧ a < 0) → a.tdiv b = flr a b) := by
 obtain ⟨s1, s2⟩ := div_spec (a := a) hb
 have e : flr a b = a / b := by unfold flr; rw [if_pos hb]
 have hs : a < 0 → a.tmod b ≤ 0 := fun h => by
  have := Int.tmod_nonneg (a := -a) b (by omega)
  rw [Int.neg_tmod] at this; omega
 have hn : 0 ≤ a → 0 ≤ a.tmod b := fun h => Int.tmod_nonneg b h
 rw [e]
 refine ⟨fun ⟨h1, h2⟩ => (s1 (by have := hs h2; omega)).1, fun h => (s2 ?_).1⟩
 by_cases h2 : a < 0
 ·have : a.tmod b = 0 := Classical.byContradiction fun h1 => h ⟨h1, h2⟩
  omega
 ·exact hn (by omega)
theorem flr_tdiv {a b : Int} (hb : b ≠ 0) : ((a.tmod b ≠ 0 ∧ (decide (a < 0) != decide (b < 0)) = true) → a.tdiv b - 1 = flr a b) ∧ (¬ (a.tmod b ≠ 0 ∧ (decide (a < 0) != decide (b < 0)) = true) → a.tdiv b = flr a b) := by
 rcases Int.lt_or_lt_of_ne hb with h | h
 ·have hp := flr_pos (a := -a) (b := -b) (by omega)
  rw [Int.tdiv_neg, Int.neg_tdiv, Int.neg_neg, Int.tmod_neg, Int.neg_tmod] at hp
  have e : flr (-a) (-b) = flr a b := by unfold flr; rw [if_pos (by omega), if_neg (by omega)]
  rw [e] at hp
  have hc : (decide (a < 0) != decide (b < 0)) = true ↔ ¬ a < 0 := by
   rw [decide_eq_true h]
   by_cases g : a < 0 <;> simp [g]
  rw [hc]
  have z : a.tmod b ≠ 0 → a ≠ 0 := fun h0 e => h0 (by rw [e]; simp)
  refine ⟨fun ⟨h1, h2⟩ => hp.1 ⟨by omega, by have := z h1; omega⟩, fun h3 => hp.2 fun ⟨h1, h2⟩ => h3 ⟨by omega, by omega⟩⟩
 ·have hp := flr_pos (a := a) h
  have hc : (decide (a < 0) != decide (b < 0)) = true ↔ a < 0 := by
   rw [decide_eq_false (show ¬ b < 0 by omega)]
   by_cases g : a < 0 <;> simp [g]
  rw [hc]; exact hp
theorem tdiv_bd2 {a b : Int} (hb : b ≠ 0) (h1 : -4000000000000000000 ≤ a) (h2 : a ≤ 4000000000000000000) : -4000000000000000000 ≤ a.tdiv b ∧ a.tdiv b ≤ 4000000000000000000 := by
 have h := Int.natAbs_tdiv_le_natAbs a b
 omega
theorem floorC_fn (a b : Int) (M : Mem) (hb : b ≠ 0) (h1 : -4000000000000000000 ≤ a) (h2 : a ≤ 4000000000000000000) (hb' : -1000000000000000 ≤ b ∧ b ≤ 1000000000000000) : FnP Tryz.prog 187 [.int .i64 a, .int .i64 b] M [.int .i64 (flr a b)] := by
 have hq := tdiv_bd2 hb h1 h2
 obtain ⟨f1, f2⟩ := flr_tdiv (a := a) hb
 refine Fn.of_vc cxOK Tryz.func187 rfl rfl rfl ?_
 refine VDiv.mk hb ?_
 refine VArith.ok (by omega) (by omega) ?_
 refine VDiv.mk hb ?_
 refine VIf.mk (fun c1 => ?_) (fun c1 => ?_)
 ·have c1 : a.tmod b ≠ 0 := by simpa using c1
  repeat (first | refine VIf.tt ?_ | refine VIf.ff ?_)
  refine VIf.mk (fun c2 => ?_) (fun c2 => ?_)
  ·refine VArith.ok (by omega) (by omega) ?_
   refine VFact.mk ⟨?_, rfl⟩ trivial
   exact congrArg (fun n => [Value.int .i64 n]) (f1 ⟨c1, c2⟩)
  ·refine VFact.mk ⟨?_, rfl⟩ trivial
   exact congrArg (fun n => [Value.int .i64 n]) (f2 fun h => absurd (c2.symm.trans h.2) (by decide))
 ·have c1 : a.tmod b = 0 := by simpa using c1
  repeat (first | refine VIf.tt ?_ | refine VIf.ff ?_)
  refine VFact.mk ⟨?_, rfl⟩ trivial
  exact congrArg (fun n => [Value.int .i64 n]) (f2 fun h => h.1 c1)
theorem endsC_fn (x y s t : Int) (B1 B2 : Nat) (M : Mem) (hB1 : M B1 = some (.cells #[.int .i64 s] 3 (0, 0))) (hB2 : M B2 = some (.cells #[.int .i64 t] 3 (0, 0))) (hx : isC x) (hy : isC y)
  (hs : -2000000000000 ≤ s ∧ s ≤ 2000000000000) (ht : -2000000000000 ≤ t ∧ t ≤ 2000000000000) (hst : s - t ≠ 0) (hb : (-500000 ≤ lo1 x y s t ∧ lo1 x y s t ≤ 500000) ∧ -500000 ≤ hi1 x y s t ∧ hi1 x y s t ≤ 500000) :
  FnP Tryz.prog 186 [.int .i64 x, .int .i64 y, .pointer (some ⟨B1, 0, none⟩), .pointer (some ⟨B2, 0, none⟩)] M [.agg #[.int .i64 (lo1 x y s t), .int .i64 (hi1 x y s t)]] := by
 unfold isC at hx hy
 have e1 := mul_bd (a := y - x) (b := s) 1000000 2000000000000 (by omega) (by omega) (by omega) (by omega) (by omega) (by omega)
 unfold lo1 hi1 at *
 refine Fn.of_vc cxOK Tryz.func186 rfl rfl rfl ?_
 refine VArith.ok (by first | omega | (simp only; omega)) (by first | omega | (simp only; omega)) ?_
 refine VRead.mk _ (cellAt hB1 0 rfl) ?_
 refine VArith.ok (by first | omega | (simp only; omega)) (by first | omega | (simp only; omega)) ?_
 refine VDraw.go (by kernel_rfl) ?_
 refine VRead.mk _ (cellAt hB1 0 rfl) ?_
 refine VRead.mk _ (cellAt hB2 0 rfl) ?_
 refine VArith.ok (by show _ ≤ s - t; omega) (by show s - t ≤ _; omega) ?_
 refine VArith.ok (by show _ ≤ -((y - x) * s); omega) (by show -((y - x) * s) ≤ _; omega) ?_
 refine VRead.mk _ (cellAt hB1 0 rfl) ?_
 refine VRead.mk _ (cellAt hB2 0 rfl) ?_
 refine VArith.ok (by show _ ≤ s - t; omega) (by show s - t ≤ _; omega) ?_
 refine VFn.p (floorC_fn ((y - x) * s) (s - t) M hst (by omega) (by omega) (by omega)) ?_
 refine VArith.ok (by show _ ≤ x + flr ((y - x) * s) (s - t); omega) (by show x + flr ((y - x) * s) (s - t) ≤ _; omega) ?_
 refine VFn.p (floorC_fn (-((y - x) * s)) (s - t) M hst (by omega) (by omega) (by omega)) ?_
 refine VArith.ok (by show _ ≤ x - flr (-((y - x) * s)) (s - t); omega) (by show x - flr (-((y - x) * s)) (s - t) ≤ _; omega) ?_
 exact VFact.mk ⟨rfl, rfl⟩ trivial
def twoF (a b : Int) (i : Nat) : Int := if i = 0 then a else b
def frmL (a b : Pt) (s t : Int) (i j : Nat) : List Pt := (frameP a b s t).take (2 * i + j)
theorem frmL_step (a b : Pt) (s t : Int) {i j : Nat} (hi : i < 2) (hj : j < 2) : frmL a b s t i (j + 1) = frmL a b s t i j ++ [(twoF (lo1 a.1 b.1 s t) (hi1 a.1 b.1 s t) i, twoF (lo1 a.2 b.2 s t) (hi1 a.2 b.2 s t) j)] := by
 match i, hi, j, hj with
 | 0, _, 0, _ => rfl
 | 0, _, 1, _ => rfl
 | 1, _, 0, _ => rfl
 | 1, _, 1, _ => rfl
theorem frmL_row (a b : Pt) (s t : Int) {i : Nat} : frmL a b s t i 2 = frmL a b s t (i + 1) 0 := by unfold frmL; congr 1
theorem frmL_len (a b : Pt) (s t : Int) (i j : Nat) : (frmL a b s t i j).length ≤ 4 := by unfold frmL; rw [List.length_take]; exact Nat.min_le_right _ _
theorem two_cell (x y : Int) {i : Nat} (h : i < 2) : ([.int .i64 x, .int .i64 y] : List Value)[i * 1 + 0]? = some (.int .i64 (twoF x y i)) := by
 match i, h with
 | 0, _ => rfl
 | 1, _ => rfl
theorem one_at {xs : List Value} {off : Nat} {x : Value} (h : xs[off + 0]? = some x) : ∀ (j : Nat) (v : Value), [x][j]? = some v → xs[off + j]? = some v
 | 0, v, hj => by rw [← hj]; exact h
 | j + 1, v, hj => by simp at hj
theorem lohi_bd {x y s t : Int} (hx : isC x) (hy : isC y) (hc : crossesB s t = true) : (-500000 ≤ lo1 x y s t ∧ lo1 x y s t ≤ 500000) ∧ -500000 ≤ hi1 x y s t ∧ hi1 x y s t ≤ 500000 := by
 unfold isC at hx hy
 have h1 := frame_box (a := (x, x)) (b := (y, y)) (y := (lo1 x y s t, lo1 x y s t)) hc (by simp [frameP]) (m1 := -500000) (M1 := 500000) (m2 := -500000) (M2 := 500000) ⟨hx.1, hx.2, hx.1, hx.2⟩ ⟨hy.1, hy.2, hy.1, hy.2⟩
 have h2 := frame_box (a := (x, x)) (b := (y, y)) (y := (hi1 x y s t, hi1 x y s t)) hc (by simp [frameP]) (m1 := -500000) (M1 := 500000) (m2 := -500000) (M2 := 500000) ⟨hx.1, hx.2, hx.1, hx.2⟩ ⟨hy.1, hy.2, hy.1, hy.2⟩
 exact ⟨⟨h1.1, h1.2.1⟩, h2.1, h2.2.1⟩
set_option maxRecDepth 20000 in
theorem frameC_fn (a b : Pt) (s t : Int) (M : Mem) (ha : placeB a = true) (hb : placeB b = true) (hs : -2000000000000 ≤ s ∧ s ≤ 2000000000000) (ht : -2000000000000 ≤ t ∧ t ≤ 2000000000000) (hc : crossesB s t = true) :
  V.Fn Tryz.prog 161 [ptv a, ptv b, .int .i64 s, .int .i64 t] M fun rs M' => ∃ u, rs = [u] ∧ Pts M' u (frameP a b s t) := by
 refine Fn.of_vc cxOK Tryz.func161 rfl rfl rfl ?_
 have pa := place_C ha
 have pb := place_C hb
 have hne := crosses_ne hc
 have bx := lohi_bd (s := s) (t := t) pa.1 pb.1 hc
 have bY := lohi_bd (s := s) (t := t) pa.2 pb.2 hc
 refine VOwn.frz ?_
 refine VFzB.mk fun z1 B1 N1 hN1 hB1 => ?_
 refine VFzB.mk fun z2 B2 N2 hN2 hB2 => ?_
 have hB1 : N1 B1 = some (.cells #[.int .i64 s] 3 (0, 0)) := hB1
 have hB2 : N2 B2 = some (.cells #[.int .i64 t] 3 (0, 0)) := hB2
 have hB1 := hN2 _ _ hB1
 refine VFn.p (endsC_fn a.1 b.1 s t B1 B2 N2 hB1 hB2 pa.1 pb.1 hs ht hne bx) ?_
 refine VCode.loop cxOK Nat
  (fun i => ⟨[(4, .box 0 0), (5, .box 1 0), (9, .clo 186 [] [.v (.pointer (some ⟨B1, 0, none⟩)), .v (.pointer (some ⟨B2, 0, none⟩))]), (10, .row 2), (21, .v (.agg #[.int .i64 (lo1 a.1 b.1 s t), .int .i64 (hi1 a.1 b.1 s t)])), (22, .v (.int .i64 i))],
   [(2, some (.row 44 2 (frmL a b s t i 0).length (cellsP (frmL a b s t i 0)))), (1, some (.box 44 [.v (.int .i64 b.1), .v (.int .i64 b.2)])), (0, some (.box 44 [.v (.int .i64 a.1), .v (.int .i64 a.2)]))], 3, N2, 43, ⟨fun _ => none, none, fun _ => none⟩⟩)
  (fun i => i ≤ 2) (fun i => 2 - i) 0 (Nat.zero_le _) ?_ ?_
 ·exact Wk.nil 10 44 2 rfl (Wk.mk' (fun k => if k = 2 then 4 else k) (by repeat' constructor) (by repeat' constructor) (by simp [injOK]) rfl rfl rfl)
 rintro i hi m
 have hi : i ≤ 2 := hi
 refine VIf.mk (fun hlt => ?_) (fun hge => ?_)
 rotate_left
 ·have : i = 2 := by have := of_decide_eq_false hge; omega
  subst this
  refine VFz.mk fun u B N4 hN4 hu => ?_
  exact VFact.mk ⟨u, rfl, hu⟩ trivial
 have hlt : i < 2 := by have := of_decide_eq_true hlt; omega
 refine VIdxR.mk i rfl hlt ?_
 refine VCells.mk [.int .i64 (twoF (lo1 a.1 b.1 s t) (hi1 a.1 b.1 s t) i)] rfl (one_at (two_cell _ _ hlt)) ⟨_, rfl, ?_⟩
 refine VFn.p (endsC_fn a.2 b.2 s t B1 B2 N2 hB1 hB2 pa.2 pb.2 hs ht hne bY) ?_
 refine VCode.loop cxOK Nat
  (fun j => ⟨[(4, .box 0 0), (5, .box 1 0), (9, .clo 186 [] [.v (.pointer (some ⟨B1, 0, none⟩)), .v (.pointer (some ⟨B2, 0, none⟩))]), (10, .row 2), (12, .v (.int .i64 (twoF (lo1 a.1 b.1 s t) (hi1 a.1 b.1 s t) i))), (21, .v (.agg #[.int .i64 (lo1 a.1 b.1 s t), .int .i64 (hi1 a.1 b.1 s t)])), (22, .v (.int .i64 i)), (30, .v (.agg #[.int .i64 (lo1 a.2 b.2 s t), .int .i64 (hi1 a.2 b.2 s t)])), (31, .v (.int .i64 j))],
   [(2, some (.row 44 2 (frmL a b s t i j).length (cellsP (frmL a b s t i j)))), (1, some (.box 44 [.v (.int .i64 b.1), .v (.int .i64 b.2)])), (0, some (.box 44 [.v (.int .i64 a.1), .v (.int .i64 a.2)]))], 3, N2, 43, ⟨fun _ => none, none, fun _ => none⟩⟩)
  (fun j => j ≤ 2) (fun j => 2 - j) 0 (Nat.zero_le _) (Wk.mk' id (by repeat' constructor) (by repeat' constructor) (injOK_id _) rfl rfl rfl) ?_
 rintro j hj m
 have hj : j ≤ 2 := hj
 refine VIf.mk (fun hlj => ?_) (fun hgj => ?_)
 ·have hlj : j < 2 := by have := of_decide_eq_true hlj; omega
  have hlen := frmL_len a b s t i j
  refine VIdxR.mk j rfl hlj ?_
  refine VCells.mk [.int .i64 (twoF (lo1 a.2 b.2 s t) (hi1 a.2 b.2 s t) j)] rfl (one_at (two_cell _ _ hlj)) ⟨_, rfl, ?_⟩
  refine VFact.mk (by show ((frmL a b s t i j).length + 1) * 16 ≤ _; omega) ?_
  refine VArith.ok (by first | omega | (simp only; omega)) (by first | omega | (simp only; omega)) ?_
  refine ⟨j + 1, hlj, (by first | omega | (simp only; omega)), Wk.mk' (fun k => if k = 2 then 4 else k) (by repeat' constructor) ⟨⟨rfl, ⟨rfl, rfl, ?_, ?_⟩⟩, ⟨rfl, by repeat' constructor⟩, ⟨rfl, by repeat' constructor⟩, trivial⟩ (by simp [injOK]) rfl rfl rfl⟩
  ·rw [frmL_step a b s t hlt hlj]; simp
  ·rw [frmL_step a b s t hlt hlj]; simp [cellsP]
 ·have : j = 2 := by have := of_decide_eq_false hgj; omega
  subst this
  refine VArith.ok (by first | omega | (simp only; omega)) (by first | omega | (simp only; omega)) ?_
  refine ⟨i + 1, hlt, (by first | omega | (simp only; omega)), Wk.mk' id (by repeat' constructor) ⟨⟨rfl, ⟨rfl, rfl, ?_, ?_⟩⟩, ⟨rfl, by repeat' constructor⟩, ⟨rfl, by repeat' constructor⟩, trivial⟩ (injOK_id _) rfl rfl rfl⟩
  ·exact congrArg List.length (frmL_row a b s t)
  ·exact congrArg cellsP (frmL_row a b s t)
end Go.Proofs.YtcdlplobniogpaaGreat
namespace Go.Proofs.YtcdlplobniogpaaGreat
open Go
end Go.Proofs.YtcdlplobniogpaaGreat
namespace Go.V
open Go Go.RowKit
variable {P : Program}
def rdyB (ops : List Oper) (D : List Nat) (i : Nat) : Bool :=
 !D.any (Nat.beq i) && match ops[i]? with | some o => (bindsOn o).all (fun k => D.any (Nat.beq k)) | none => false
def nextV (ops : List Oper) (vs D : List Nat) : Option Nat := vs.find? (rdyB ops D)
def cands (ops : List Oper) (D : List Nat) : List Nat := (List.range ops.length).filter (rdyB ops D)
def pairS (ops : Array Oper) (tab : List Nat) (i j : Nat) : Bool :=
 match ops[i]?, ops[j]? with
 | some o, some o' => dstNe o o' && (anc tab j i || anc tab i j || (!dstIn (o'.looksAt ops) o && !dstIn (o.looksAt ops) o'))
 | _, _ => false
def statOK (ops : Array Oper) (vs tab : List Nat) : Bool :=
 tabOK ops.toList tab && (ops.toList.all plainOp) && (vs.all fun i => (List.range ops.size).all fun j => Nat.beq i j || pairS ops tab i j)
theorem any_beq {D : List Nat} {i : Nat} : D.any (Nat.beq i) = true ↔ i ∈ D := by
 rw [List.any_eq_true]
 constructor
 ·rintro ⟨x, hx, h⟩
  rw [Nat.eq_of_beq_eq_true h]; exact hx
 ·exact fun h => ⟨i, h, Nat.beq_refl i⟩
theorem rdyB_iff {ops : Array Oper} {D : List Nat} {i : Nat} : rdyB ops.toList D i = true ↔ i ∉ D ∧ ∃ o, ops[i]? = some o ∧ ∀ k ∈ bindsOn o, k ∈ D := by
 unfold rdyB
 rw [Bool.and_eq_true, Bool.not_eq_true', ← Bool.not_eq_true, any_beq]
 constructor
 ·rintro ⟨h1, h2⟩
  refine ⟨h1, ?_⟩
  split at h2
  ·rename_i o ho
   refine ⟨o, by simpa using ho, fun k hk => any_beq.1 (List.all_eq_true.1 h2 k hk)⟩
  ·cases h2
 ·rintro ⟨h1, o, ho, hk⟩
  refine ⟨h1, ?_⟩
  have ho' : ops.toList[i]? = some o := by simpa using ho
  rw [ho']
  exact List.all_eq_true.2 fun k hk' => any_beq.2 (hk k hk')
def eagT (R : WR) (F : Fence) (n : Nat) (P : Program) (ops : Array Oper) (vs : List Nat) (Q : Exit → Act → World → Prop) : Nat → List Nat → Act → World → Prop
 | 0, _, a, w => Q .normal a w
 | f + 1, D, a, w => match nextV ops.toList vs D with
  | some i => ∃ o, ops[i]? = some o ∧ ∃ v, (∀ W, R.r w W → Yv P ops o a v W) ∧ (∀ W g, R.r w W → o.about P W a.eval = some g → F.fn g) ∧ eagT R F n P ops vs Q f (i :: D) (a.put o.dst v) w
  | none => ∀ i ∈ cands ops.toList D, wpOpIn F n P ops Q i (fun a' w' => R.r w w' ∧ eagT R F n P ops vs Q f (i :: D) a' w') a w
theorem statOK_spec {ops : Array Oper} {vs tab : List Nat} (h : statOK ops vs tab = true) : tabOK ops.toList tab = true ∧ (∀ (i : Nat) (o : Oper), ops[i]? = some o → plainOp o = true) ∧ ∀ i ∈ vs, ∀ j, j < ops.size → i ≠ j → pairS ops tab i j = true := by
 simp only [statOK, Bool.and_eq_true, List.all_eq_true, List.mem_range, Bool.or_eq_true] at h
 obtain ⟨⟨h1, h2⟩, h3⟩ := h
 refine ⟨h1, fun i o ho => h2 o ?_, fun i hi j hj hne => ?_⟩
 ·exact List.mem_of_getElem? (by simpa using ho : ops.toList[i]? = some o)
 ·rcases h3 i hi j hj with h | h
  ·exact absurd (Nat.eq_of_beq_eq_true h) hne
  ·exact h
theorem pairS_pair {ops : Array Oper} {tab : List Nat} {i j : Nat} (h : pairS ops tab i j = true) (hn : anc tab i j = false) : pairOK ops tab (i, 0) (j, 0) = true := by
 unfold pairS at h
 unfold pairOK
 split at h
 ·rename_i o o' h1 h2
  simp only [h1, h2]
  rw [hn, Bool.or_false] at h
  simpa using h
 ·cases h
theorem all_lt_len : ∀ (n : Nat) (D : List Nat), (∀ i, i < n → i ∈ D) → n ≤ D.length
 | 0, _, _ => Nat.zero_le _
 | n + 1, D, h => by
  have hn := h n (Nat.lt_succ_self n)
  have ih := all_lt_len n (D.erase n) fun i hi => (List.mem_erase_of_ne (by omega)).2 (h i (by omega))
  rw [List.length_erase_of_mem hn] at ih
  have := List.length_pos_of_mem hn
  omega
theorem nodup_le_len : ∀ (n : Nat) (E : List Nat), (∀ x ∈ E, x < n) → E.Nodup → E.length ≤ n
 | 0, E, hE, _ => by
  cases E with
  | nil => exact Nat.le_refl _
  | cons x E => have := hE x List.mem_cons_self; omega
 | n + 1, E, hE, hn => by
  by_cases hm : n ∈ E
  ·have := nodup_le_len n (E.erase n) (fun x hx => by
    have h1 := hE x (List.mem_of_mem_erase hx)
    have h2 := (hn.mem_erase_iff.1 hx).1
    omega) (hn.erase n)
   rw [List.length_erase_of_mem hm] at this
   omega
  ·have := nodup_le_len n E (fun x hx => by
    have h1 := hE x hx
    have : x ≠ n := fun e => hm (e ▸ hx)
    omega) hn
   omega
theorem bindsOn_lt {ops : Array Oper} {tab : List Nat} (h : tabOK ops.toList tab = true) {i : Nat} {o : Oper} (ho : ops[i]? = some o) {k : Nat} (hk : k ∈ bindsOn o) : k < i := by
 have ho' : ops.toList[i]? = some o := by simpa using ho
 have hi : i < ops.toList.length := (List.getElem?_eq_some_iff.1 ho').1
 simp only [tabOK, List.all_eq_true, List.mem_range] at h
 have h1 := h i hi
 rw [ho'] at h1
 simp only [Bool.and_eq_true, List.all_eq_true] at h1
 exact Nat.le_of_ble_eq_true (h1.1 k hk)
structure WayT (R : WR) (F : Fence) (n : Nat) (P : Program) (ops : Array Oper) (vs : List Nat) (Q : Exit → Act → World → Prop) (tab : List Nat) (us : List Nat) (listed : Array Bool) (a la : Act) (w : World) (pend : List PE) (D : List Nat) (f : Nat) : Prop where
 und : us.Nodup
 size : listed.size = ops.size
 uiff : ∀ i, i < ops.size → (listed.getD i true = false ↔ i ∈ us)
 ult : ∀ i ∈ us, i < ops.size
 dnd : D.Nodup
 len : D.length + f = ops.size
 dA : ∀ i, i < ops.size → i ∉ us → i ∈ D
 dP : ∀ i ∈ D, i ∈ us → ∃ p ∈ pend, p.i = i
 dlt : ∀ i ∈ D, i < ops.size
 punl : ∀ p ∈ pend, p.i ∈ us ∧ p.i ∈ D ∧ p.i ∈ vs
 pnd : (pend.map PE.i).Nodup
 closedD : ∀ i o, ops[i]? = some o → i ∈ D → ∀ k ∈ bindsOn o, k ∈ D
 closed : ∀ i o, ops[i]? = some o → listed.getD i false = true → ∀ k ∈ bindsOn o, listed.getD k false = true
 defers : a.defers = la.defers
 tsize : a.tmps.size = la.tmps.size
 agree : ∀ d, (∀ p ∈ pend, p.o.dst ≠ some d) → a.tmps[d]? = la.tmps[d]?
 inv : PInv R F P ops tab a la w pend
 rest : eagT R F n P ops vs Q f D la w
theorem way_anyT {R : WR} {F : Fence} {n : Nat} {ops : Array Oper} {Q : Exit → Act → World → Prop} {vs tab : List Nat} (hok : statOK ops vs tab = true) (hQ : ∀ c a w, ¬ Q (.panic c) a w) :
  ∀ (fuel : Nat) {us : List Nat} {listed : Array Bool} {a la : Act} {w : World} {pend : List PE} {D : List Nat} {f : Nat}, us.length = fuel → WayT R F n P ops vs Q tab us listed a la w pend D f → wpAnyIn F n P .any ops Q fuel listed a w := by
 obtain ⟨htab, hplain, hstat⟩ := statOK_spec hok
 have fin : ∀ {listed : Array Bool} {a la : Act} {w : World} {pend : List PE} {D : List Nat} {f : Nat}, WayT R F n P ops vs Q tab [] listed a la w pend D f → Q .normal a w := by
  intro listed a la w pend D f h
  have hp : pend = [] := by
   cases pend with
   | nil => rfl
   | cons p l => have := (h.punl p List.mem_cons_self).1; cases this
  subst hp
  have hf : f = 0 := by
   have := all_lt_len ops.size D fun i hi => h.dA i hi (fun hx => by cases hx)
   have := h.len
   omega
  subst hf
  have hal : a = la := by
   have h1 := h.defers
   have h2 : a.tmps = la.tmps := Array.ext_getElem? (fun d => h.agree d (fun p hp => by cases hp))
   cases a; cases la
   simp only at h1 h2
   subst h1; subst h2; rfl
  rw [hal]; exact h.rest
 -- something can come up: the least of those that are left
 have some_ready : ∀ {us : List Nat} {listed : Array Bool} {a la : Act} {w : World} {pend : List PE} {D : List Nat} {f : Nat}, WayT R F n P ops vs Q tab us listed a la w pend D f → Region.ready .any ops listed = [] → us = [] := by
  intro us listed a la w pend D f h hr
  cases hus : us with
  | nil => rfl
  | cons i0 us' =>
   exfalso
   obtain ⟨i, hi, hmin⟩ : ∃ i, i ∈ us ∧ ∀ k, k < i → k ∉ us := by
    obtain ⟨m, hm1, hm2⟩ := least_of (p := fun i => i ∈ us) i0 (by rw [hus]; exact List.mem_cons_self)
    exact ⟨m, hm1, fun k hk hku => by have := hm2 k hku; omega⟩
   have hlt := h.ult i hi
   have ho : ops[i]? = some ops[i] := Array.getElem?_eq_getElem hlt
   have : i ∈ Region.ready .any ops listed := ready_iff.2 ⟨hlt, (h.uiff i hlt).2 hi, _, ho, fun k hk => by
    have hki : k < i := bindsOn_lt htab ho hk
    have hnk := mt (h.uiff k (by omega)).1 (hmin k hki)
    rw [getD_tf (by rw [h.size]; omega)] at hnk
    simpa using hnk⟩
   rw [hr] at this; cases this
 intro fuel
 induction fuel with
 | zero =>
  intro us listed a la w pend D f hlen h
  have hus : us = [] := List.length_eq_zero_iff.1 hlen
  subst hus
  refine ⟨?_, fin h⟩
  cases hr : Region.ready .any ops listed with
  | nil => rfl
  | cons i l =>
   have hi : i ∈ Region.ready .any ops listed := by rw [hr]; exact List.mem_cons_self
   obtain ⟨h1, h2, _⟩ := ready_iff.1 hi
   have := (h.uiff i h1).1 h2
   cases this
 | succ fuel ih =>
  intro us listed a la w pend D f hlen h
  refine ⟨fun hr => ?_, fun i hi => ?_⟩
  ·have := some_ready h hr
   subst this
   exact fin h
  ·obtain ⟨hilt, hil, oi, hoi, hib⟩ := ready_iff.1 hi
   have hius : i ∈ us := (h.uiff i hilt).1 hil
   have hlen' : (us.erase i).length = fuel := by rw [List.length_erase_of_mem hius, hlen]; rfl
   have noanc : ∀ k, k ∈ us → anc tab i k = false := by
    intro k hk
    cases ha : anc tab i k with
    | false => rfl
    | true =>
     exfalso
     have := anc_done htab (Ls := fun k => listed.getD k false = true) h.closed i k oi hoi hib ha (fun k hk => by rw [← h.size]; exact getD_lt hk)
     have h2 := (h.uiff k (h.ult k hk)).2 hk
     rw [getD_tf (by rw [h.size]; exact h.ult k hk)] at h2
     rw [h2] at this; cases this
   have hsz' : (listed.setIfInBounds i true).size = ops.size := by simp [h.size]
   have huiff' : ∀ k, k < ops.size → ((listed.setIfInBounds i true).getD k true = false ↔ k ∈ us.erase i) := by
    intro k hk
    rw [getD_set (by rw [h.size]; exact hilt), h.und.mem_erase_iff]
    by_cases hik : i = k
    ·subst hik; simp
    ·rw [if_neg hik, h.uiff k hk]
     exact ⟨fun h1 => ⟨fun e => hik e.symm, h1⟩, fun h1 => h1.2⟩
   have hclosed' : ∀ j o, ops[j]? = some o → (listed.setIfInBounds i true).getD j false = true → ∀ k ∈ bindsOn o, (listed.setIfInBounds i true).getD k false = true := by
    intro j o hj hl k hk
    rw [getD_set (by rw [h.size]; exact hilt)] at hl ⊢
    split
    ·rfl
    ·split at hl
     ·rename_i e; subst e
      rw [hoi] at hj; cases hj
      exact hib k hk
     ·exact h.closed j o hj hl k hk
   have hpl : plainOp oi = true := hplain i oi hoi
   have hibus : ∀ k ∈ bindsOn oi, k < ops.size ∧ k ∉ us := fun k hk => by
    have h1 := hib k hk
    have hks : k < ops.size := by rw [← h.size]; exact getD_lt h1
    refine ⟨hks, fun hku => ?_⟩
    have h2 := (h.uiff k hks).2 hku
    rw [getD_tf (by rw [h.size]; exact hks)] at h2
    rw [h2] at h1; cases h1
   clear hi hil
   have hund' := h.und.erase i
   have hult' : ∀ k ∈ us.erase i, k < ops.size := fun k hk => h.ult k (List.mem_of_mem_erase hk)
   have hmem' : ∀ k ∈ us, k ≠ i → k ∈ us.erase i := fun k hk hne => (h.und.mem_erase_iff).2 ⟨hne, hk⟩
   have hne' : ∀ k ∈ us.erase i, k ≠ i := fun k hk => ((h.und.mem_erase_iff).1 hk).1
   -- one that was taken ahead
   have doP : ∀ {la : Act} {pend : List PE} {D : List Nat} {f : Nat}, WayT R F n P ops vs Q tab us listed a la w pend D f → (∃ p ∈ pend, p.i = i) → wpOpIn F n P ops Q i (wpAnyIn F n P .any ops Q fuel (listed.setIfInBounds i true)) a w := by
    rintro la pend D f h ⟨p, hp, hpi⟩
    obtain ⟨l', hpe, hl'⟩ := h.inv.get p hp
    have hpo : p.o = oi := by have := hpe.ho; rw [hpi, hoi] at this; exact (Option.some.inj this).symm
    have hsee : Sees ops oi a p.b := by
     intro d hd
     rw [← hpo] at hd
     rcases hpe.see d hd with ⟨q, hq, hqd, _⟩ | ⟨_, h4⟩
     ·have hqp := hl' q hq
      have := pair_spec (p := (q.i, 0)) (q := (p.i, 0)) (h.inv.ho q hqp) hpe.ho (hpe.pair q hq)
      exact absurd hd ((this.2 (by rw [hpi]; exact noanc q.i (h.punl q hqp).1)).2.2.1 d hqd)
     ·exact h4.symm
    have hval := h.inv.val p hp
    have next : wpAnyIn F n P .any ops Q fuel (listed.setIfInBounds i true) (a.put oi.dst p.v) w := by
     refine ih (us := us.erase i) (la := la) (pend := pend.filter fun q => !Nat.beq q.i i) (D := D) (f := f) hlen' ⟨hund', hsz', huiff', hult', h.dnd, h.len, ?_, ?_, h.dlt, ?_, ?_, h.closedD, hclosed', by rw [put_defers]; exact h.defers, by rw [put_size]; exact h.tsize, ?_, ?_, h.rest⟩
     ·intro k hk hku
      by_cases e : k = i
      ·subst e; rw [← hpi]; exact (h.punl p hp).2.1
      ·exact h.dA k hk fun hx => hku (hmem' k hx e)
     ·intro k hkD hku
      obtain ⟨q, hq, hqk⟩ := h.dP k hkD (List.mem_of_mem_erase hku)
      refine ⟨q, List.mem_filter.2 ⟨hq, ?_⟩, hqk⟩
      cases hb : Nat.beq q.i i with
      | false => rfl
      | true => exact absurd ((Nat.eq_of_beq_eq_true hb).symm.trans hqk).symm (hne' k hku)
     ·intro q hq
      obtain ⟨hq1, hq2⟩ := List.mem_filter.1 hq
      exact ⟨hmem' q.i (h.punl q hq1).1 (fun he => by rw [he, Nat.beq_refl] at hq2; cases hq2), (h.punl q hq1).2⟩
     ·exact List.Nodup.sublist (List.Sublist.map _ List.filter_sublist) h.pnd
     ·intro d hd
      by_cases hdd : oi.dst = some d
      ·rw [hdd, put_get, if_pos rfl, hval d (by rw [hpo]; exact hdd), h.tsize]
      ·rw [put_other _ _ hdd]
       refine h.agree d fun q hq hqd => ?_
       by_cases hqi : q.i = i
       ·have := h.inv.ho q hq
        rw [hqi, hoi] at this
        cases this
        exact hdd hqd
       ·refine hd q (List.mem_filter.2 ⟨hq, ?_⟩) hqd
        cases hb : Nat.beq q.i i with
        | false => rfl
        | true => exact absurd (Nat.eq_of_beq_eq_true hb) hqi
     ·have := PInv.exec (j := p) (tab := tab) hpe.ho h.tsize hval h.inv (fun q hq _ => by rw [hpi]; exact noanc q.i (h.punl q hq).1) h.pnd (.inl hp)
      rw [hpo, hpi] at this
      exact this
    have hyv := hpe.yv w hpe.bel
    have hab := fun f => hpe.ab w f hpe.bel
    rw [hpo] at hyv hab
    unfold wpOpIn
    simp only [hoi]
    rw [hsee.wanted]
    rcases hyv with ⟨hw, hrun⟩ | ⟨hw, hv⟩
    ·rw [if_pos hw]
     unfold Oper.wpIn
     rw [hsee.about]
     refine ⟨hab, ?_⟩
     rw [Oper.semAt_plain _ _ _ (plain_defer hpl), hsee.exec hpl, hrun]
     exact next
    ·rw [if_neg (by rw [hw]; exact Bool.false_ne_true)]
     rw [hsee.about]
     exact ⟨hab, by rw [← hv]; exact next⟩
   have main : ∀ (f : Nat) {la : Act} {pend : List PE} {D : List Nat}, WayT R F n P ops vs Q tab us listed a la w pend D f → wpOpIn F n P ops Q i (wpAnyIn F n P .any ops Q fuel (listed.setIfInBounds i true)) a w := by
    intro f
    induction f with
    | zero =>
     intro la pend D h
     have hD : i ∈ D := by
      refine Classical.byContradiction fun hno => ?_
      have h1 := nodup_le_len ops.size (i :: D) (fun x hx => by
       rcases List.mem_cons.1 hx with rfl | hx
       ·exact hilt
       ·exact h.dlt x hx) (List.nodup_cons.2 ⟨hno, h.dnd⟩)
      have h2 := h.len
      rw [List.length_cons] at h1
      omega
     exact doP h (h.dP i hD hius)
    | succ f ihf =>
     intro la pend D h
     by_cases hp : ∃ p ∈ pend, p.i = i
     ·exact doP h hp
     have hiD : i ∉ D := fun hD => hp (h.dP i hD hius)
     have hr := h.rest
     unfold eagT at hr
     have notD : ∀ {p : PE}, p ∈ pend → ∀ {j : Nat} {o : Oper}, j ∉ D → anc tab p.i j = false := by
      intro p hp j o hj
      cases ha : anc tab p.i j with
      | false => rfl
      | true =>
       exfalso
       have hpD := (h.punl p hp).2.1
       have hpo := h.inv.ho p hp
       exact hj (anc_done htab (Ls := fun k => k ∈ D) (fun i o ho hi k hk => h.closedD i o ho hi k hk) p.i j p.o hpo (h.closedD p.i p.o hpo hpD) ha (fun k hk => h.dlt k hk))
     split at hr
     ·rename_i k hk
      have hkr : rdyB ops.toList D k = true := List.find?_some hk
      have hkv : k ∈ vs := List.mem_of_find?_eq_some hk
      obtain ⟨hkD, ok, hok0, hkb⟩ := rdyB_iff.1 hkr
      obtain ⟨ok1, hok', v, hv, hab, he⟩ := hr
      have eok : ok = ok1 := by rw [hok0] at hok'; exact Option.some.inj hok'
      subst eok
      have hkus : k ∈ us := Classical.byContradiction fun hno => hkD (h.dA k (Array.getElem?_eq_some_iff.1 hok0).1 hno)
      have hpk : ∀ p ∈ pend, p.i ≠ k := fun p hp he => hkD (he ▸ (h.punl p hp).2.1)
      have hpair : ∀ p ∈ pend, pairOK ops tab (p.i, 0) (k, 0) = true := fun p hp =>
       pairS_pair (hstat p.i (h.punl p hp).2.2 k (Array.getElem?_eq_some_iff.1 hok0).1 (hpk p hp)) (notD hp (o := ok) hkD)
      have hdst : ∀ p ∈ pend, ∀ d, p.o.dst = some d → ok.dst ≠ some d := fun p hp => (pair_spec (p := (p.i, 0)) (q := (k, 0)) (h.inv.ho p hp) hok0 (hpair p hp)).1
      refine ihf (la := la.put ok.dst v) (pend := ⟨k, ok, v, la, w⟩ :: pend) (D := k :: D) ⟨h.und, h.size, h.uiff, h.ult, List.nodup_cons.2 ⟨hkD, h.dnd⟩, by rw [List.length_cons]; have := h.len; omega, fun j hj hju => List.mem_cons_of_mem _ (h.dA j hj hju), ?_, ?_, ?_, ?_, ?_, h.closed, by rw [put_defers]; exact h.defers, by rw [put_size]; exact h.tsize, ?_, ⟨⟨hok0, hv, hab, R.refl _, ?_, ?_, hpair⟩, ?_⟩, he⟩
      ·intro j hj hju
       rcases List.mem_cons.1 hj with rfl | hj
       ·exact ⟨_, List.mem_cons_self, rfl⟩
       ·obtain ⟨p, hp, hpj⟩ := h.dP j hj hju
        exact ⟨p, List.mem_cons_of_mem _ hp, hpj⟩
      ·intro j hj
       rcases List.mem_cons.1 hj with rfl | hj
       ·exact (Array.getElem?_eq_some_iff.1 hok0).1
       ·exact h.dlt j hj
      ·intro p hp
       rcases List.mem_cons.1 hp with rfl | hp
       ·exact ⟨hkus, List.mem_cons_self, hkv⟩
       ·exact ⟨(h.punl p hp).1, List.mem_cons_of_mem _ (h.punl p hp).2.1, (h.punl p hp).2.2⟩
      ·refine List.nodup_cons.2 ⟨fun hm => ?_, h.pnd⟩
       obtain ⟨p, hp, hpi⟩ := List.mem_map.1 hm
       exact hpk p hp hpi
      ·intro j o ho hj q hq
       rcases List.mem_cons.1 hj with rfl | hj
       ·rw [hok0] at ho; cases ho
        exact List.mem_cons_of_mem _ (hkb q hq)
       ·exact List.mem_cons_of_mem _ (h.closedD j o ho hj q hq)
      ·intro d hd
       rw [put_other _ _ (hd _ List.mem_cons_self)]
       exact h.agree d fun p hp => hd p (List.mem_cons_of_mem _ hp)
      ·intro d hd
       simp only at hd
       rw [hd, put_get, if_pos rfl]
       have := put_size la (some d) v
       rw [this]
      ·intro d hd
       by_cases hx : ∃ p ∈ pend, p.o.dst = some d
       ·obtain ⟨p, hp, hpd⟩ := hx
        exact .inl ⟨p, hp, hpd, by rw [put_other _ _ (hdst p hp d hpd)]⟩
       ·exact .inr ⟨fun p hp hpd => hx ⟨p, hp, hpd⟩, (h.agree d fun p hp hpd => hx ⟨p, hp, hpd⟩).symm⟩
      ·exact PInv.step (by rw [put_size]) h.inv (fun p hp d hd => by rw [put_other _ _ (hdst p hp d hd)]) (fun p hp d hd => rfl) (R.refl _)
     ·
      have hcand : i ∈ cands ops.toList D := by
       unfold cands
       refine List.mem_filter.2 ⟨List.mem_range.2 (by simpa using hilt), rdyB_iff.2 ⟨hiD, oi, hoi, fun k hk => ?_⟩⟩
       obtain ⟨h1, h2⟩ := hibus k hk
       exact h.dA k h1 h2
      have hop := hr i hcand
      have hap : ∀ p ∈ pend, (∀ d, p.o.dst = some d → d ∉ oi.looksAt ops) ∧ (∀ d, oi.dst = some d → d ∉ p.o.looksAt ops) ∧ ∀ d, p.o.dst = some d → oi.dst ≠ some d := by
       intro p hp'
       have hne : p.i ≠ i := fun e => hp ⟨p, hp', e⟩
       have h1 := pair_spec (p := (p.i, 0)) (q := (i, 0)) (h.inv.ho p hp') hoi (pairS_pair (hstat p.i (h.punl p hp').2.2 i hilt hne) (notD hp' (o := oi) hiD))
       have h2 := h1.2 (noanc p.i (h.punl p hp').1)
       exact ⟨h2.2.2.1, h2.2.2.2, h1.1⟩
      have hsee : Sees ops oi a la := fun d hd => h.agree d fun p hp hpd => (hap p hp).1 d hpd hd
      refine op_move hoi hpl hsee h.defers hQ hop ?_
      intro v w' ds hk
      obtain ⟨hb, he⟩ := hk
      refine ih (us := us.erase i) (la := { la with defers := ds }.put oi.dst v) (pend := pend) (D := i :: D) (f := f) hlen' ⟨hund', hsz', huiff', hult', List.nodup_cons.2 ⟨hiD, h.dnd⟩, by rw [List.length_cons]; have := h.len; omega, ?_, ?_, ?_, ?_, h.pnd, ?_, hclosed', by rw [put_defers, put_defers], by rw [put_size, put_size]; exact h.tsize, ?_, ?_, he⟩
      ·intro k hk hku
       by_cases e : k = i
       ·subst e; exact List.mem_cons_self
       ·exact List.mem_cons_of_mem _ (h.dA k hk fun hx => hku (hmem' k hx e))
      ·intro k hkD hku
       rcases List.mem_cons.1 hkD with rfl | hkD
       ·exact absurd rfl (hne' _ hku)
       ·exact h.dP k hkD (List.mem_of_mem_erase hku)
      ·intro j hj
       rcases List.mem_cons.1 hj with rfl | hj
       ·exact hilt
       ·exact h.dlt j hj
      ·intro p hp'
       exact ⟨hmem' p.i (h.punl p hp').1 (fun e => hp ⟨p, hp', e⟩), List.mem_cons_of_mem _ (h.punl p hp').2.1, (h.punl p hp').2.2⟩
      ·intro j o ho hj q hq
       rcases List.mem_cons.1 hj with rfl | hj
       ·rw [hoi] at ho; cases ho
        obtain ⟨h1, h2⟩ := hibus q hq
        exact List.mem_cons_of_mem _ (h.dA q h1 h2)
       ·exact List.mem_cons_of_mem _ (h.closedD j o ho hj q hq)
      ·intro d hd
       by_cases hdd : oi.dst = some d
       ·rw [hdd, put_get, put_get, if_pos rfl, if_pos rfl]
        show (if d < a.tmps.size then some v else none) = if d < la.tmps.size then some v else none
        rw [h.tsize]
       ·rw [put_other _ _ hdd, put_other _ _ hdd]
        exact h.agree d hd
      ·refine PInv.step (by rw [put_size]) h.inv (fun p hp d hd => ?_) (fun p hp d hd => ?_) hb
       ·rw [put_other _ _ ((hap p hp).2.2 d hd)]
       ·rw [put_other _ _ (fun hx => (hap p hp).2.1 d hx hd)]
   exact main f h
theorem wpIn_region_eagT {R : WR} {F : Fence} {n : Nat} {ops : Array Oper} {Q : Exit → Act → World → Prop} {vs tab : List Nat} {id : Nat} {a : Act} {w : World} (hm : P.follows .mixedOrders = true) (hok : statOK ops vs tab = true) (hQ : ∀ c a w, ¬ Q (.panic c) a w)
  (h : eagT R F n P ops vs Q ops.size [] a { w with drawn := w.drawn + 1 }) : (Code.region id ops true).wpIn F n P Q a w := by
 refine wpIn_region_any hm ?_
 refine way_anyT hok hQ ops.size (us := List.range ops.size) (la := a) (pend := []) (D := []) (f := ops.size) (by simp) ⟨List.nodup_range, by simp, ?_, (fun i hi => List.mem_range.1 hi), List.nodup_nil, by simp, (fun i hi hn => absurd (List.mem_range.2 hi) hn), (fun i hi => (by cases hi)), (fun i hi => (by cases hi)), (fun p hp => (by cases hp)), List.nodup_nil, (fun i o ho hi => (by cases hi)), ?_, rfl, rfl, fun _ _ => rfl, trivial, h⟩
 ·intro i hi
  simp [Array.getD, hi]
 ·intro i o ho hl
  simp [Array.getD] at hl
inductive VBoth (A B : Prop) : Prop
 | mk (h : A) (k : B)
def allC : List Nat → (Nat → Prop) → Prop
 | [], _ => VStuck 220
 | i :: r, p => match r with
  | [] => p i
  | _ => VBoth (p i) (allC r p)
theorem allC_mem : ∀ {l : List Nat} {p : Nat → Prop}, allC l p → ∀ i ∈ l, p i
 | [], _, h, _, _ => by cases h
 | [j], p, h, i, hi => by simp at hi; subst hi; exact h
 | j :: k :: r, p, h, i, hi => by
  cases h with
  | mk h1 h2 =>
   rcases List.mem_cons.1 hi with rfl | hi
   ·exact h1
   ·exact allC_mem (l := k :: r) h2 i hi
def vcT (C : VX) (P : Program) (ops : List Oper) (vs es : List Nat) (M0 : Mem) : Nat → List Nat → St → (St → Prop) → Prop
 | 0, _, st, k => k st
 | f + 1, D, st, k => match nextV ops vs D with
  | some i => match ops[i]? with
   | some o => guardV ops st o (fun st => barV C P M0 st o fun s => st.putv o.dst s fun st' => vcT C P ops vs es M0 f (i :: D) st' k) (fun st => st.putv o.dst (.v (.tuple #[])) fun st' => vcT C P ops vs es M0 f (i :: D) st' k)
   | none => VStuck 221
  | none => allC (es.filter (rdyB ops D)) fun i => match ops[i]? with
   | some o => guardV ops st o (fun st => step C P st o fun st' => st'.withM fun M' => VFact (M0.le M') (vcT C P ops vs es M0 f (i :: D) st' k)) (fun st => st.putv o.dst (.v (.tuple #[])) fun st' => vcT C P ops vs es M0 f (i :: D) st' k)
   | none => VStuck 222
theorem vcT_sound {C : VX} (hC : VXOK P C) {r : Option Nat} {n : Nat} {κ : Yt → Bs → Prop} {fx : Nat → Prop} {tm : Array Value} {ops : Array Oper} {vs es : List Nat} (hes : ∀ i, i < ops.toList.length → i ∉ vs → i ∈ es) {k : St → Prop} {G : Gh} {Q : Exit → Act → World → Prop} (hQ : ∀ a W, KK κ G k a W → Keep fx tm a → Q .normal a W) (hw : ∀ o ∈ ops.toList, ∀ d, o.dst = some d → ¬ fx d) {B : Bs} {M0 : Mem} (hlow : ∀ b, b < B.n₀ → M0 b = B.M₀ b) :
  ∀ (f : Nat) {D : List Nat} {ρ : Env} {st : St} {a : Act} {W : World}, vcT C P ops.toList vs es M0 f D st k → κ st.G.Y B → Sat B.n₀ B.w B.M₀ ρ st a W → G.lq st.G → Keep fx tm a → M0.le st.M → eagT (WR.keep (KeepW B M0)) (Fw r) n P ops vs Q f D a W := by
 intro f
 induction f with
 | zero => intro D ρ st a W hk hκ h hG hkp _; exact hQ a W ⟨B, ρ, st, hκ, h, hG, hk⟩ hkp
 | succ f ih =>
  intro D ρ st a W hk hκ h hG hkp hle
  have putM : ∀ (st : St) (d : Option Tmp) (s : SV), (st.put d s).M = st.M := fun st d s => by cases d <;> rfl
  have kw : ∀ {ρ' : Env} {st' : St} {a' : Act} {W' : World}, Sat B.n₀ B.w B.M₀ ρ' st' a' W' → M0.le st'.M → KeepW B M0 W' := fun h hl => ⟨h.h.below, h.h.size, fun b o hb => h.h.mem b o (hl b o hb)⟩
  have skip : ∀ {i : Nat} {o : Oper}, (∀ d, o.dst = some d → ¬ fx d) → ∀ {st1 : St}, Sat B.n₀ B.w B.M₀ ρ st1 a W → st1.G = st.G → M0.le st1.M → (st1.putv o.dst (.v (.tuple #[])) fun st' => vcT C P ops.toList vs es M0 f (i :: D) st' k) → eagT (WR.keep (KeepW B M0)) (Fw r) n P ops vs Q f (i :: D) (a.put o.dst undef) W := by
   intro i o hwo st1 h1 hG1 hM1 hB
   obtain ⟨j1, j2⟩ := putv_elim hB h1 (by trivial)
   exact ih j2 (by rw [put_G, hG1]; exact hκ) j1 (by rw [put_G, hG1]; exact hG) (hkp.put hwo _) (by rw [putM]; exact hM1)
  unfold vcT at hk
  unfold eagT
  split at hk
  ·rename_i i hn
   split at hk
   ·rename_i o ho
    have ho' : ops[i]? = some o := by simpa using ho
    have hwo := hw o (List.mem_of_getElem? ho)
    refine ⟨o, ho', ?_⟩
    obtain ⟨st1, h1, hG1, hM1, hcase⟩ := guard_soundM h hk
    have hM1' : M0.le st1.M := by rw [hM1]; exact hle
    rcases hcase with ⟨hw', hA⟩ | ⟨hw', hB⟩
    ·obtain ⟨sl, ow, nx, M1, nt, G1⟩ := st1
     have hbH : ∀ W', KeepW B M0 W' → SatH B.n₀ B.w B.M₀ ρ ⟨sl, [], nx, M0, nt, ⟨fun _ => none, none, fun _ => none⟩⟩ W' := fun W' hk =>
      ⟨hk.1, hk.2.1, hk.2.2, fun id e he => (by cases he), fun i j ei ej hi => (by cases hi), fun i e b hi => (by cases hi), fun b o hb => (by cases hb), hlow, fun b o hb => (by cases hb)⟩
     have hbs : Sat B.n₀ B.w B.M₀ ρ ⟨sl, [], nx, M0, nt, ⟨fun _ => none, none, fun _ => none⟩⟩ { a with defers := [] } W := ⟨hbH W (kw h1 hM1'), h1.nt, h1.sl, trivial⟩
     obtain ⟨_, s, q1, q2, q3⟩ := val_sound hC hA hbs
     obtain ⟨j1, j2⟩ := putv_elim q3 h1 q1
     exact ⟨s.den ρ, fun W' hb => .inl ⟨hw', q2 W' (hbH W' (hb (kw h1 hM1')))⟩, fun _ _ _ _ => trivial, ih j2 (by rw [put_G, hG1]; exact hκ) j1 (by rw [put_G, hG1]; exact hG) (hkp.put hwo _) (by rw [putM]; exact hM1')⟩
    ·exact ⟨undef, fun W' hb => .inr ⟨hw', rfl⟩, fun _ _ _ _ => trivial, skip hwo h1 hG1 hM1' hB⟩
   ·cases hk
  ·rename_i hn
   intro i hi
   have hi' : i ∈ es.filter (rdyB ops.toList D) := by
    obtain ⟨h1, h2⟩ := List.mem_filter.1 hi
    refine List.mem_filter.2 ⟨hes i (List.mem_range.1 h1) fun hv => ?_, h2⟩
    exact absurd h2 (List.find?_eq_none.1 hn i hv)
   have hk := allC_mem hk i hi'
   split at hk
   ·rename_i o ho
    have ho' : ops[i]? = some o := by simpa using ho
    have hwo := hw o (List.mem_of_getElem? ho)
    obtain ⟨st1, h1, hG1, hM1, hcase⟩ := guard_soundM h hk
    have hM1' : M0.le st1.M := by rw [hM1]; exact hle
    unfold wpOpIn
    simp only [ho']
    rcases hcase with ⟨hw', hA⟩ | ⟨hw', hB⟩
    ·rw [if_pos hw']
     refine Oper.wpIn_mono ?_ (op_keep (step_sound hC hA h1) hwo hkp)
     rintro a' W' ⟨⟨ρ', st', g1, g2, g3⟩, hkp'⟩
     cases withM_iff g3 with
     | mk hle' hk' => exact ⟨fun _ => kw g1 hle', ih hk' (by rw [g2.2, hG1]; exact hκ) g1 (hG.trans (by rw [← hG1]; exact g2.1)) hkp' hle'⟩
    ·rw [if_neg (by rw [hw']; exact Bool.false_ne_true)]
     exact ⟨fun _ _ => trivial, fun h => h, skip hwo h1 hG1 hM1' hB⟩
   ·cases hk
def valsOf (ops : List Oper) : List Nat := (List.range ops.length).filter fun i => match ops[i]? with | some o => isVal ops o | none => false
theorem VCode.draws {C : VX} (hC : VXOK P C) {id : Nat} {ops : Array Oper} {st : St} {Q : Ex → St → Prop} (ds : List Nat) (hok : statOK ops (valsOf ops.toList) (tabOf ops.toList) = true) (S : Type) (inv : S → St) (pf : S → Prop)
  (walk : frzSl st ds fun st1 => st1.withM fun M0 => vcT C P ops.toList (valsOf ops.toList) (List.range ops.toList.length) M0 ops.toList.length [] st1 fun st' => ∃ s, pf s ∧ Wk st' (inv s))
  (rest : st.withYf fun _ f => ∀ s m, pf s → (inv s).flatG m f (Q .normal)) : VCode P (.region id ops true) st Q := by
 refine ⟨fun r n κ B ρ a W fx tm hY hr hκ h hwr hkp => ?_⟩
 obtain ⟨st1, h1, hG1, hk⟩ := frzSl_sound h walk
 replace hk := withM_iff hk
 refine wpIn_region_eagT (R := WR.keep (KeepW B st1.M)) (vs := valsOf ops.toList) (tab := tabOf ops.toList) hC.mixed hok ?_ ?_
 ·rintro c a' w' ⟨⟨ex, he, _⟩, _⟩; cases he
 ·rw [show ops.toList.length = ops.size from Array.length_toList] at hk
  refine vcT_sound hC (fun i hi _ => List.mem_range.2 hi) (G := st1.G) (k := fun st' => ∃ s, pf s ∧ Wk st' (inv s)) (fun a W hK hkp => ⟨⟨.normal, rfl, ?_⟩, hkp⟩) hwr h1.h.mlow _ hk (by rw [hG1]; exact hκ) (h1.grow (W' := { W with drawn := W.drawn + 1 }) (Below.drew (Below.refl _ W)) (M' := st1.M) h1.h.mem (fun _ _ => rfl)) (Gh.lq_refl _) hkp (Mem.le_refl _)
  obtain ⟨B', ρ', st', hκ', g1, g2, s, hp, hwk⟩ := hK
  obtain ⟨ρ1, hs1⟩ := hwk.imp st'.G _ _ _ ρ' a W g1
  have hq := flatG_iff (withYf_iff rest s st'.G.m hp)
  have hf : st'.G.f = st.G.f := by rw [g2.2, hG1]
  refine ⟨B', ρ1, _, ?_, ?_, ?_, hq⟩
  ·rw [← hwk.y]; exact hκ'
  ·rw [← hwk.y, ← hf]; exact hs1
  ·exact ⟨by rw [← hG1]; exact g2.1, rfl⟩
def coverB (n : Nat) (vs es : List Nat) : Bool := (List.range n).all fun i => vs.any (Nat.beq i) || es.any (Nat.beq i)
theorem coverB_spec {n : Nat} {vs es : List Nat} (h : coverB n vs es = true) : ∀ i, i < n → i ∉ vs → i ∈ es := fun i hi hv => by
 have := List.all_eq_true.1 h i (List.mem_range.2 hi)
 rcases Bool.or_eq_true .. ▸ this with h1 | h1
 ·exact absurd (any_beq.1 h1) hv
 ·exact any_beq.1 h1
theorem VCode.drawsL {C : VX} (hC : VXOK P C) {id : Nat} {ops : Array Oper} {st : St} {Q : Ex → St → Prop} (ds vs es : List Nat) (hok : (statOK ops vs (tabOf ops.toList) && coverB ops.toList.length vs es) = true) (S : Type) (inv : S → St) (pf : S → Prop)
  (walk : frzSl st ds fun st1 => st1.withM fun M0 => vcT C P ops.toList vs es M0 ops.toList.length [] st1 fun st' => ∃ s, pf s ∧ Wk st' (inv s))
  (rest : st.withYf fun _ f => ∀ s m, pf s → (inv s).flatG m f (Q .normal)) : VCode P (.region id ops true) st Q := by
 obtain ⟨hok, hcov⟩ := Bool.and_eq_true .. ▸ hok
 refine ⟨fun r n κ B ρ a W fx tm hY hr hκ h hwr hkp => ?_⟩
 obtain ⟨st1, h1, hG1, hk⟩ := frzSl_sound h walk
 replace hk := withM_iff hk
 refine wpIn_region_eagT (R := WR.keep (KeepW B st1.M)) (vs := vs) (tab := tabOf ops.toList) hC.mixed hok ?_ ?_
 ·rintro c a' w' ⟨⟨ex, he, _⟩, _⟩; cases he
 ·rw [show ops.toList.length = ops.size from Array.length_toList] at hk
  refine vcT_sound hC (coverB_spec hcov) (G := st1.G) (k := fun st' => ∃ s, pf s ∧ Wk st' (inv s)) (fun a W hK hkp => ⟨⟨.normal, rfl, ?_⟩, hkp⟩) hwr h1.h.mlow _ hk (by rw [hG1]; exact hκ) (h1.grow (W' := { W with drawn := W.drawn + 1 }) (Below.drew (Below.refl _ W)) (M' := st1.M) h1.h.mem (fun _ _ => rfl)) (Gh.lq_refl _) hkp (Mem.le_refl _)
  obtain ⟨B', ρ', st', hκ', g1, g2, s, hp, hwk⟩ := hK
  obtain ⟨ρ1, hs1⟩ := hwk.imp st'.G _ _ _ ρ' a W g1
  have hq := flatG_iff (withYf_iff rest s st'.G.m hp)
  have hf : st'.G.f = st.G.f := by rw [g2.2, hG1]
  refine ⟨B', ρ1, _, ?_, ?_, ?_, hq⟩
  ·rw [← hwk.y]; exact hκ'
  ·rw [← hwk.y, ← hf]; exact hs1
  ·exact ⟨by rw [← hG1]; exact g2.1, rfl⟩
theorem VCode.ease {c : Code} {st : St} {Q : Ex → St → Prop} (st' : St) (hw : Wk st st') (rest : st.withYf fun _ f => ∀ m, st'.flatG m f fun st2 => VCode P c st2 Q) : VCode P c st Q := by
 refine ⟨fun r n κ B ρ a W fx tm hY hr hκ h hwr hkp => ?_⟩
 obtain ⟨ρ1, hs1⟩ := hw.imp st.G _ _ _ ρ a W h
 have hq := flatG_iff (withYf_iff rest st.G.m)
 have hG : (⟨st.G.m, st'.G.Y, st.G.f⟩ : Gh) = st.G := by rw [← hw.y]
 rw [hG] at hq
 exact hq.run r n κ B ρ1 a W fx tm hY hr hκ hs1 hwr hkp
theorem VCode.frz {c : Code} {st : St} {Q : Ex → St → Prop} (ds : List Nat) (walk : frzSl st ds fun st1 => VCode P c st1 Q) : VCode P c st Q := by
 refine ⟨fun r n κ B ρ a W fx tm hY hr hκ h hwr hkp => ?_⟩
 obtain ⟨st1, h1, hG1, hk⟩ := frzSl_sound h walk
 have := hk.run r n κ B ρ a W fx tm hY (by rw [hG1]; exact hr) (by rw [hG1]; exact hκ) h1 hwr hkp
 rw [hG1] at this
 exact this
end Go.V
