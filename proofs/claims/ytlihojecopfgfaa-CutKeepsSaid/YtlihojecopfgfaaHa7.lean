import Derived.Test.YtlihojecopfgfaaHa6
set_option linter.unusedVariables false
set_option linter.unusedSimpArgs false
/- Plain geometry: what two polygons have in common is in the hull of the corners and crossings that they share; what a half-plane leaves of one. -/
namespace Go.Proofs.Ytlihojecopfgfaa
open Go
def conQ (p : List Pt) : List Lin := if p.length = 2 then conS (gp p 0) (gp p 1) else conP p
theorem seg_has {a b x : Pt} (hab : a ≠ b) : (decide (crossP a b x = 0) && betwB a b x) = true ↔ ∀ c ∈ conS a b, 0 ≤ c.at (q2 x) := by
  have al : (alongQ a b).at (q2 x) = (((b.1 - a.1) * (x.1 - a.1) + (b.2 - a.2) * (x.2 - a.2) : Int) : Rat) := by unfold alongQ Lin.at q2; push_cast; grind
  have al' : (alongQ b a).at (q2 x) = (((a.1 - b.1) * (x.1 - b.1) + (a.2 - b.2) * (x.2 - b.2) : Int) : Rat) := by unfold alongQ Lin.at q2; push_cast; grind
  have fl : crossP b a x = -crossP a b x := cross_flip _ _ _
  have hall : (∀ c ∈ conS a b, 0 ≤ c.at (q2 x)) ↔ (crossP a b x = 0 ∧ 0 ≤ (b.1 - a.1) * (x.1 - a.1) + (b.2 - a.2) * (x.2 - a.2) ∧ 0 ≤ (a.1 - b.1) * (x.1 - b.1) + (a.2 - b.2) * (x.2 - b.2)) := by
    simp only [conS, List.mem_cons, List.not_mem_nil, or_false, forall_eq_or_imp, forall_eq]
    rw [sideQ_nonneg, sideQ_nonneg, al, al', castQ_nonneg, castQ_nonneg, fl]
    constructor
    · rintro ⟨h1, h2, h3, h4⟩; exact ⟨by omega, h3, h4⟩
    · rintro ⟨h1, h3, h4⟩; exact ⟨by omega, by omega, h3, h4⟩
  rw [hall]
  simp only [betwB, Bool.and_eq_true, decide_eq_true_eq]
  have sg : ∀ {m n : Int}, (0 ≤ m → 0 ≤ n) → (m ≤ 0 → n ≤ 0) → 0 ≤ m * n := fun {m n} g1 g2 => by
    rcases Int.le_total 0 m with h | h
    · exact Int.mul_nonneg h (g1 h)
    · have := Int.mul_nonneg (show 0 ≤ -m by omega) (show 0 ≤ -n by have := g2 h; omega)
      rwa [Int.neg_mul_neg] at this
  constructor
  · rintro ⟨hz, b1, b2, b3, b4⟩
    have m1 := sg (m := b.1 - a.1) (n := x.1 - a.1) (by omega) (by omega)
    have m2 := sg (m := b.2 - a.2) (n := x.2 - a.2) (by omega) (by omega)
    have m3 := sg (m := a.1 - b.1) (n := x.1 - b.1) (by omega) (by omega)
    have m4 := sg (m := a.2 - b.2) (n := x.2 - b.2) (by omega) (by omega)
    exact ⟨hz, by omega, by omega⟩
  · rintro ⟨hz, h3, h4⟩
    refine ⟨hz, ?_⟩
    -- |u|² y.1 = u.1 (u · y), and so on
    have hL : 0 < (b.1 - a.1) * (b.1 - a.1) + (b.2 - a.2) * (b.2 - a.2) := by
      have := lenQ_pos hab
      have e : lenQ a b = (((b.1 - a.1) * (b.1 - a.1) + (b.2 - a.2) * (b.2 - a.2) : Int) : Rat) := by unfold lenQ; push_cast; rfl
      rw [e] at this; exact castQ_pos.1 this
    have hz' : (b.1 - a.1) * (x.2 - a.2) = (b.2 - a.2) * (x.1 - a.1) := by unfold crossP cross at hz; omega
    have e1 : ((b.1 - a.1) * (b.1 - a.1) + (b.2 - a.2) * (b.2 - a.2)) * (x.1 - a.1) = (b.1 - a.1) * ((b.1 - a.1) * (x.1 - a.1) + (b.2 - a.2) * (x.2 - a.2)) := by grind
    have e2 : ((b.1 - a.1) * (b.1 - a.1) + (b.2 - a.2) * (b.2 - a.2)) * (x.2 - a.2) = (b.2 - a.2) * ((b.1 - a.1) * (x.1 - a.1) + (b.2 - a.2) * (x.2 - a.2)) := by grind
    have e3 : ((b.1 - a.1) * (b.1 - a.1) + (b.2 - a.2) * (b.2 - a.2)) * (b.1 - x.1) = (b.1 - a.1) * ((a.1 - b.1) * (x.1 - b.1) + (a.2 - b.2) * (x.2 - b.2)) := by grind
    have e4 : ((b.1 - a.1) * (b.1 - a.1) + (b.2 - a.2) * (b.2 - a.2)) * (b.2 - x.2) = (b.2 - a.2) * ((a.1 - b.1) * (x.1 - b.1) + (a.2 - b.2) * (x.2 - b.2)) := by grind
    generalize (b.1 - a.1) * (b.1 - a.1) + (b.2 - a.2) * (b.2 - a.2) = L at *
    generalize (b.1 - a.1) * (x.1 - a.1) + (b.2 - a.2) * (x.2 - a.2) = S at *
    generalize (a.1 - b.1) * (x.1 - b.1) + (a.2 - b.2) * (x.2 - b.2) = T at *
    have sgn : ∀ {u y S : Int}, 0 ≤ S → L * y = u * S → (0 ≤ u → 0 ≤ y) ∧ (u ≤ 0 → y ≤ 0) := fun {u y S} hS e => by
      refine ⟨fun hu => pos_of_mul hL (by rw [e]; exact Int.mul_nonneg hu hS), fun hu => ?_⟩
      have := Int.mul_nonneg (show 0 ≤ -u by omega) hS
      rw [Int.neg_mul] at this
      have := pos_of_mul (y := -y) hL (by rw [Int.mul_neg]; omega)
      omega
    have g1 := sgn h3 e1
    have g2 := sgn h3 e2
    have g3 := sgn h4 e3
    have g4 := sgn h4 e4
    omega
theorem con_has {p : List Pt} (h : validB p = true) (h2 : 2 ≤ p.length) {x : Pt} : hasB p x = true ↔ ∀ c ∈ conQ p, 0 ≤ c.at (q2 x) := by
  unfold hasB conQ
  rw [if_neg (by omega)]
  by_cases e : p.length = 2
  · rw [if_pos e, if_pos e]
    exact seg_has (corner_ne h (i := 1) (k := 0) (by omega) (by omega) (by omega))
  · rw [if_neg e, if_neg e]
    constructor
    · intro hx c hc
      obtain ⟨i, hi, rfl⟩ := conP_of hc
      have := all_iff.1 hx i hi
      simp only [sideB, decide_eq_true_eq] at this
      exact sideQ_nonneg.2 this
    · intro hx
      refine all_true fun i hi => ?_
      simp only [sideB, decide_eq_true_eq]
      exact sideQ_nonneg.1 (hx _ (conP_mem hi))
/-- On an edge. -/
theorem tight {p : List Pt} (h : validB p = true) (h2 : 2 ≤ p.length) {w : P2} (hw : ∀ c ∈ conQ p, 0 ≤ c.at w) {c : Lin} (hc : c ∈ conQ p) (h0 : c.at w = 0) :
    ∃ j, j < p.length ∧ ∃ r, 0 ≤ r ∧ r ≤ 1 ∧ w = segQ (gp p j) (nx p j) r ∧ (r = 0 ∨ r = 1 ∨ ∀ v, crQ (vecQ (gp p j) (nx p j)) v = 0 → c.dir v = 0) := by
  unfold conQ at hw hc
  by_cases e : p.length = 2
  · rw [if_pos e] at hw hc
    have hne := corner_ne h (i := 1) (k := 0) (by omega) (by omega) (by omega)
    obtain ⟨r, r1, r2, rfl⟩ := seg_in hne hw
    have en : nx p 0 = gp p 1 := by unfold nx; rw [Nat.mod_eq_of_lt (by omega)]
    refine ⟨0, by omega, r, r1, r2, by rw [en], ?_⟩
    rw [en]
    have hp := lenQ_pos hne
    simp only [conS, List.mem_cons, List.not_mem_nil, or_false] at hc
    rcases hc with rfl | rfl | rfl | rfl
    · exact .inr (.inr fun v hv => by rw [sideQ_dir]; exact hv)
    · refine .inr (.inr fun v hv => ?_)
      rw [sideQ_dir]
      unfold crQ vecQ at *
      grind
    · rw [alongQ_seg] at h0
      rcases Rat.mul_eq_zero.1 h0 with g | g
      · exact .inl g
      · rw [g] at hp; exact absurd hp Rat.lt_irrefl
    · rw [alongQ_seg'] at h0
      rcases Rat.mul_eq_zero.1 h0 with g | g
      · exact .inr (.inl (by grind))
      · rw [g] at hp; exact absurd hp Rat.lt_irrefl
  · rw [if_neg e] at hw hc
    obtain ⟨j, hj, rfl⟩ := conP_of hc
    obtain ⟨r, r1, r2, hr⟩ := side_seg h (by omega) hj hw h0
    exact ⟨j, hj, r, r1, r2, hr, .inr (.inr fun v hv => by rw [sideQ_dir]; exact hv)⟩
def crossesB (s t : Int) : Bool := (decide (s < 0) && decide (0 < t)) || (decide (0 < s) && decide (t < 0))
theorem crosses_iff {s t : Int} : crossesB s t = true ↔ (s < 0 ∧ 0 < t) ∨ (0 < s ∧ t < 0) := by simp [crossesB]
theorem crosses_of {s t : Int} {r : Rat} (h0 : r ≠ 0) (h1 : r ≠ 1) (r0 : 0 ≤ r) (r1 : r ≤ 1) (h : (1 - r) * (s : Rat) + r * (t : Rat) = 0) (hne : s ≠ 0) : crossesB s t = true := by
  rw [crosses_iff]
  have p0 : 0 < r := by grind
  have p1 : 0 < 1 - r := by grind
  rcases Int.lt_or_lt_of_ne hne with g | g
  · refine .inl ⟨g, ?_⟩
    have := Rat.mul_pos p1 (castQ_pos.2 (show 0 < -s by omega))
    push_cast at this
    refine castQ_pos.1 ?_
    refine Rat.not_le.1 fun hl => ?_
    have := Rat.mul_nonneg r0 (show 0 ≤ -(t : Rat) by grind)
    grind
  · refine .inr ⟨g, ?_⟩
    have := Rat.mul_pos p1 (castQ_pos.2 g)
    refine Int.not_le.1 fun hl => ?_
    have := Rat.mul_nonneg r0 (castQ_nonneg.2 hl)
    grind
/-- Sides of two polygons cross. -/
def crossIJ (p q : List Pt) (i j : Nat) : Bool := crossesB (crossP (gp p i) (nx p i) (gp q j)) (crossP (gp p i) (nx p i) (nx q j)) && crossesB (crossP (gp q j) (nx q j) (gp p i)) (crossP (gp q j) (nx q j) (nx p i))
theorem crossIJ_comm (p q : List Pt) (i j : Nat) : crossIJ p q i j = crossIJ q p j i := Bool.and_comm _ _
/-- Where a slide along a side ends. -/
structure EndOf (p q : List Pt) (f : Lin) : Prop where
  no1 : ∀ y ∈ p, hasB q y = true → ¬ f.at (q2 y) < 0
  no2 : ∀ y ∈ q, hasB p y = true → ¬ f.at (q2 y) < 0
  no3 : ∀ i j, i < p.length → j < q.length → crossIJ p q i j = true → ∀ r s, segQ (gp p i) (nx p i) s = segQ (gp q j) (nx q j) r → ¬ f.at (segQ (gp p i) (nx p i) s) < 0
theorem EndOf.symm {p q : List Pt} {f : Lin} (h : EndOf p q f) : EndOf q p f :=
  ⟨h.no2, h.no1, fun i j hi hj hc r s e => by rw [e]; exact h.no3 j i hj hi (by rw [crossIJ_comm]; exact hc) s r e.symm⟩
theorem nx_mem {p : List Pt} {i : Nat} (hi : i < p.length) : nx p i ∈ p := gp_mem (Nat.mod_lt _ (by omega))
theorem corner_in {p : List Pt} (h : validB p = true) (h2 : 2 ≤ p.length) {y : Pt} (hy : y ∈ p) : ∀ c ∈ conQ p, 0 ≤ c.at (q2 y) := (con_has h h2).1 ((hl_of_valid h).has hy)
theorem seg_con {c : Lin} {a b : Pt} {s : Rat} (h0 : 0 ≤ s) (h1 : s ≤ 1) (ha : 0 ≤ c.at (q2 a)) (hb : 0 ≤ c.at (q2 b)) : 0 ≤ c.at (segQ a b s) := by
  rw [segQ_at]
  have := Rat.mul_nonneg (show 0 ≤ 1 - s by grind) ha
  have := Rat.mul_nonneg h0 hb
  grind
theorem end_side {p q : List Pt} (hp : validB p = true) (hq : validB q = true) (h2 : 2 ≤ p.length) (k2 : 2 ≤ q.length) {f : Lin} (E : EndOf p q f) {i : Nat} (hi : i < p.length) {s : Rat} (s0 : 0 ≤ s) (s1 : s ≤ 1)
    (hin : ∀ c ∈ conQ q, 0 ≤ c.at (segQ (gp p i) (nx p i) s)) (hf : f.at (segQ (gp p i) (nx p i) s) < 0) : False := by
  obtain ⟨t, t0, t1, hL, hft, hend⟩ := slide_seg (gp p i) (nx p i) (conQ q) f s s0 s1 hin hf
  have atA : t = 0 → False := fun e => by
    subst e
    rw [segQ_0] at hL hft
    exact E.no1 _ (gp_mem hi) ((con_has hq k2).2 hL) hft
  have atB : t = 1 → False := fun e => by
    subst e
    rw [segQ_1] at hL hft
    exact E.no1 _ (nx_mem hi) ((con_has hq k2).2 hL) hft
  rcases hend with e | e | ⟨c, hc, hc0, hcd⟩
  · exact atA e
  · exact atB e
  by_cases e0 : t = 0
  · exact atA e0
  by_cases e1 : t = 1
  · exact atB e1
  obtain ⟨j, hj, r, r0, r1, hw, hr⟩ := tight hq k2 hL hc hc0
  have inP : ∀ c ∈ conQ p, 0 ≤ c.at (segQ (gp p i) (nx p i) t) := fun c hc => seg_con t0 t1 (corner_in hp h2 (gp_mem hi) c hc) (corner_in hp h2 (nx_mem hi) c hc)
  have cA : r = 0 → False := fun e => by
    subst e
    rw [segQ_0] at hw
    rw [hw] at inP hft
    exact E.no2 _ (gp_mem hj) ((con_has hp h2).2 inP) hft
  have cB : r = 1 → False := fun e => by
    subst e
    rw [segQ_1] at hw
    rw [hw] at inP hft
    exact E.no2 _ (nx_mem hj) ((con_has hp h2).2 inP) hft
  by_cases f0 : r = 0
  · exact cA f0
  by_cases f1 : r = 1
  · exact cB f1
  have hpar := (hr.resolve_left f0).resolve_left f1
  have hD : crQ (vecQ (gp q j) (nx q j)) (vecQ (gp p i) (nx p i)) ≠ 0 := fun h => hcd (hpar _ h)
  -- strictly on both sides, each way
  have x1 : (1 - r) * ((crossP (gp p i) (nx p i) (gp q j) : Int) : Rat) + r * ((crossP (gp p i) (nx p i) (nx q j) : Int) : Rat) = 0 := by
    rw [← sideQ_at, ← sideQ_at, ← segQ_at, ← hw, segQ_at, sideQ_l, sideQ_r]; grind
  have x2 : (1 - t) * ((crossP (gp q j) (nx q j) (gp p i) : Int) : Rat) + t * ((crossP (gp q j) (nx q j) (nx p i) : Int) : Rat) = 0 := by
    rw [← sideQ_at, ← sideQ_at, ← segQ_at, hw, segQ_at, sideQ_l, sideQ_r]; grind
  have d1 : ((crossP (gp p i) (nx p i) (nx q j) : Int) : Rat) - ((crossP (gp p i) (nx p i) (gp q j) : Int) : Rat) = -crQ (vecQ (gp q j) (nx q j)) (vecQ (gp p i) (nx p i)) := by
    unfold crossP cross crQ vecQ; push_cast; grind
  have d2 : ((crossP (gp q j) (nx q j) (nx p i) : Int) : Rat) - ((crossP (gp q j) (nx q j) (gp p i) : Int) : Rat) = crQ (vecQ (gp q j) (nx q j)) (vecQ (gp p i) (nx p i)) := by
    unfold crossP cross crQ vecQ; push_cast; grind
  have n1 : crossP (gp p i) (nx p i) (gp q j) ≠ 0 := fun h => by
    rw [h] at x1 d1
    have : r * ((crossP (gp p i) (nx p i) (nx q j) : Int) : Rat) = 0 := by push_cast at x1; grind
    rcases Rat.mul_eq_zero.1 this with g | g
    · exact f0 g
    · push_cast at d1; grind
  have n2 : crossP (gp q j) (nx q j) (gp p i) ≠ 0 := fun h => by
    rw [h] at x2 d2
    have : t * ((crossP (gp q j) (nx q j) (nx p i) : Int) : Rat) = 0 := by push_cast at x2; grind
    rcases Rat.mul_eq_zero.1 this with g | g
    · exact e0 g
    · push_cast at d2; grind
  refine E.no3 i j hi hj ?_ r t hw hft
  unfold crossIJ
  rw [crosses_of f0 f1 r0 r1 x1 n1, crosses_of e0 e1 t0 t1 x2 n2]; rfl
/-- **What two polygons have in common.** -/
theorem meet_neg {p q : List Pt} (hp : validB p = true) (hq : validB q = true) {f : Lin} (E : EndOf p q f) {x : Pt} (hx : hasB p x = true) (hy : hasB q x = true) : ¬ f.at (q2 x) < 0 := by
  intro hf
  have hl := len_one hp
  have kl := len_one hq
  have one : ∀ {p q : List Pt}, EndOf p q f → p.length = 1 → hasB p x = true → hasB q x = true → False := fun {p q} E h1 hx hy => by
    unfold hasB at hx
    rw [if_pos h1, beq_iff_eq] at hx
    exact E.no1 _ (gp_mem (show 0 < p.length by omega)) (by rw [hx]; exact hy) (by rw [hx]; exact hf)
  by_cases h1 : p.length = 1
  · exact one E h1 hx hy
  by_cases k1 : q.length = 1
  · exact one E.symm k1 hy hx
  have h2 : 2 ≤ p.length := by omega
  have k2 : 2 ≤ q.length := by omega
  have inP := (con_has hp h2).1 hx
  have inQ := (con_has hq k2).1 hy
  have two : ∀ {p q : List Pt}, validB p = true → validB q = true → 2 ≤ q.length → EndOf p q f → p.length = 2 → (∀ c ∈ conQ p, 0 ≤ c.at (q2 x)) → (∀ c ∈ conQ q, 0 ≤ c.at (q2 x)) → False := fun {p q} hp hq k2 E h2 inP inQ => by
    unfold conQ at inP
    rw [if_pos h2] at inP
    obtain ⟨r, r0, r1, e⟩ := seg_in (corner_ne hp (i := 1) (k := 0) (by omega) (by omega) (by omega)) inP
    have en : nx p 0 = gp p 1 := by unfold nx; rw [Nat.mod_eq_of_lt (by omega)]
    rw [← en] at e
    refine end_side hp hq (by omega) k2 E (i := 0) (by omega) r0 r1 ?_ ?_
    · rw [← e]; exact inQ
    · rw [← e]; exact hf
  by_cases h3 : p.length = 2
  · exact two hp hq k2 E h3 inP inQ
  by_cases k3 : q.length = 2
  · exact two hq hp h2 E.symm k3 inQ inP
  have cP : conQ p = conP p := by unfold conQ; rw [if_neg h3]
  have cQ : conQ q = conP q := by unfold conQ; rw [if_neg k3]
  have go : ∀ v : P2, ¬ (v.1 = 0 ∧ v.2 = 0) → f.dir v ≤ 0 → False := fun v hv hd => by
    obtain ⟨c0, hc0, hb⟩ := blocked hp (by omega) hv
    obtain ⟨t, t0, hall, c, hc, _, htight⟩ := slide_lin (conP p ++ conP q) (q2 x) v (fun c hc => by
      rcases List.mem_append.1 hc with hc | hc
      · exact inP c (by rw [cP]; exact hc)
      · exact inQ c (by rw [cQ]; exact hc)) ⟨c0, List.mem_append.2 (.inl hc0), hb⟩
    have hfz : f.at (mvP (q2 x) v t) < 0 := by
      rw [at_mv]
      have := Rat.mul_nonneg t0 (show 0 ≤ -f.dir v by grind)
      grind
    have aP : ∀ c ∈ conP p, 0 ≤ c.at (mvP (q2 x) v t) := fun c hc => hall c (List.mem_append.2 (.inl hc))
    have aQ : ∀ c ∈ conP q, 0 ≤ c.at (mvP (q2 x) v t) := fun c hc => hall c (List.mem_append.2 (.inr hc))
    rcases List.mem_append.1 hc with hc | hc
    · obtain ⟨i, hi, rfl⟩ := conP_of hc
      obtain ⟨r, r0, r1, e⟩ := side_seg hp (by omega) hi aP htight
      refine end_side hp hq h2 k2 E hi r0 r1 ?_ ?_
      · rw [← e, cQ]; exact aQ
      · rw [← e]; exact hfz
    · obtain ⟨i, hi, rfl⟩ := conP_of hc
      obtain ⟨r, r0, r1, e⟩ := side_seg hq (by omega) hi aQ htight
      refine end_side hq hp k2 h2 E.symm hi r0 r1 ?_ ?_
      · rw [← e, cP]; exact aP
      · rw [← e]; exact hfz
  by_cases hd : f.dir (1, 0) ≤ 0
  · exact go (1, 0) (fun h => absurd h.1 (by decide)) hd
  · refine go (-1, 0) (fun h => absurd h.1 (by decide)) ?_
    unfold Lin.dir at *
    grind
/-- **What a half-plane leaves.** g is the half-plane: not above 0. -/
theorem cut_neg {p : List Pt} (hp : validB p = true) {A B C : Int} (hAB : ¬ (A = 0 ∧ B = 0)) {f : Lin}
    (no1 : ∀ y ∈ p, A * y.1 + B * y.2 - C ≤ 0 → ¬ f.at (q2 y) < 0)
    (no2 : ∀ i, i < p.length → crossesB (A * (gp p i).1 + B * (gp p i).2 - C) (A * (nx p i).1 + B * (nx p i).2 - C) = true → ∀ r, (1 - r) * ((A * (gp p i).1 + B * (gp p i).2 - C : Int) : Rat) + r * ((A * (nx p i).1 + B * (nx p i).2 - C : Int) : Rat) = 0 → ¬ f.at (segQ (gp p i) (nx p i) r) < 0)
    {x : Pt} (hx : hasB p x = true) (hg : A * x.1 + B * x.2 - C ≤ 0) : ¬ f.at (q2 x) < 0 := by
  intro hf
  have hl := len_one hp
  have gat : ∀ y : Pt, (⟨-A, -B, C⟩ : Lin).at (q2 y) = -((A * y.1 + B * y.2 - C : Int) : Rat) := fun y => by unfold Lin.at q2; push_cast; grind
  by_cases h1 : p.length = 1
  · unfold hasB at hx
    rw [if_pos h1, beq_iff_eq] at hx
    exact no1 _ (gp_mem (show 0 < p.length by omega)) (by rw [hx]; exact hg) (by rw [hx]; exact hf)
  have h2 : 2 ≤ p.length := by omega
  have inP := (con_has hp h2).1 hx
  have side : ∀ i, i < p.length → ∀ s, 0 ≤ s → s ≤ 1 → 0 ≤ (⟨-A, -B, C⟩ : Lin).at (segQ (gp p i) (nx p i) s) → f.at (segQ (gp p i) (nx p i) s) < 0 → False := fun i hi s s0 s1 hgs hfs => by
    obtain ⟨t, t0, t1, hL, hft, hend⟩ := slide_seg (gp p i) (nx p i) [⟨-A, -B, C⟩] f s s0 s1 (fun c hc => by rw [List.mem_singleton.1 hc]; exact hgs) hfs
    have hg' := hL _ (List.mem_singleton.2 rfl)
    have atA : t = 0 → False := fun e => by
      subst e
      rw [segQ_0] at hg' hft
      rw [gat] at hg'
      refine no1 _ (gp_mem hi) ?_ hft
      have : ((A * (gp p i).1 + B * (gp p i).2 - C : Int) : Rat) ≤ ((0 : Int) : Rat) := by grind
      exact_mod_cast this
    have atB : t = 1 → False := fun e => by
      subst e
      rw [segQ_1] at hg' hft
      rw [gat] at hg'
      refine no1 _ (nx_mem hi) ?_ hft
      have : ((A * (nx p i).1 + B * (nx p i).2 - C : Int) : Rat) ≤ ((0 : Int) : Rat) := by grind
      exact_mod_cast this
    rcases hend with e | e | ⟨c, hc, hc0, hcd⟩
    · exact atA e
    · exact atB e
    by_cases e0 : t = 0
    · exact atA e0
    by_cases e1 : t = 1
    · exact atB e1
    obtain rfl := List.mem_singleton.1 hc
    rw [segQ_at, gat, gat] at hc0
    have hz : (1 - t) * ((A * (gp p i).1 + B * (gp p i).2 - C : Int) : Rat) + t * ((A * (nx p i).1 + B * (nx p i).2 - C : Int) : Rat) = 0 := by grind
    have hne : A * (gp p i).1 + B * (gp p i).2 - C ≠ 0 := fun h => by
      rw [h] at hz
      have : t * ((A * (nx p i).1 + B * (nx p i).2 - C : Int) : Rat) = 0 := by push_cast at hz; grind
      rcases Rat.mul_eq_zero.1 this with g | g
      · exact e0 g
      · refine hcd ?_
        have h' := castQ_zero.2 h
        unfold Lin.dir vecQ
        push_cast at g h'
        grind
    exact no2 i hi (crosses_of e0 e1 t0 t1 hz hne) t hz hft
  have hgx : 0 ≤ (⟨-A, -B, C⟩ : Lin).at (q2 x) := by
    rw [gat]
    have : ((A * x.1 + B * x.2 - C : Int) : Rat) ≤ ((0 : Int) : Rat) := by exact_mod_cast hg
    grind
  by_cases h3 : p.length = 2
  · unfold conQ at inP
    rw [if_pos h3] at inP
    obtain ⟨r, r0, r1, e⟩ := seg_in (corner_ne hp (i := 1) (k := 0) (by omega) (by omega) (by omega)) inP
    have en : nx p 0 = gp p 1 := by unfold nx; rw [Nat.mod_eq_of_lt (by omega)]
    rw [← en] at e
    refine side 0 (by omega) r r0 r1 ?_ ?_
    · rw [← e]; exact hgx
    · rw [← e]; exact hf
  have cP : conQ p = conP p := by unfold conQ; rw [if_neg h3]
  have go : ∀ v : P2, ¬ (v.1 = 0 ∧ v.2 = 0) → (⟨-A, -B, C⟩ : Lin).dir v = 0 → f.dir v ≤ 0 → False := fun v hv hgd hd => by
    obtain ⟨c0, hc0, hb⟩ := blocked hp (by omega) hv
    obtain ⟨t, t0, hall, c, hc, _, htight⟩ := slide_lin (conP p) (q2 x) v (fun c hc => inP c (by rw [cP]; exact hc)) ⟨c0, hc0, hb⟩
    obtain ⟨i, hi, rfl⟩ := conP_of hc
    obtain ⟨r, r0, r1, e⟩ := side_seg hp (by omega) hi hall htight
    refine side i hi r r0 r1 ?_ ?_
    · rw [← e, at_mv, hgd]; grind
    · rw [← e, at_mv]
      have := Rat.mul_nonneg t0 (show 0 ≤ -f.dir v by grind)
      grind
  have hv : ¬ ((B : Rat) = 0 ∧ -(A : Rat) = 0) := fun h => hAB ⟨castQ_zero.1 (by grind), castQ_zero.1 h.1⟩
  by_cases hd : f.dir ((B : Rat), -(A : Rat)) ≤ 0
  · exact go (B, -A) hv (by unfold Lin.dir; grind) hd
  · refine go (-B, A) (fun h => hv ⟨by have := h.1; simp only at this; grind, by have := h.2; simp only at this; grind⟩) (by unfold Lin.dir; grind) ?_
    unfold Lin.dir at *
    grind
end Go.Proofs.Ytlihojecopfgfaa

/- Plain geometry: the places around a crossing; hulls of places, or their octagons. -/
namespace Go.Proofs.Ytlihojecopfgfaa
open Go
/-- A quotient, rounded down. -/
def flr (a b : Int) : Int := if 0 < b then a / b else (-a) / (-b)
theorem flr_spec {a b : Int} (hb : b ≠ 0) {y : Rat} (h : (b : Rat) * y = a) : ((flr a b : Int) : Rat) ≤ y ∧ y < ((flr a b : Int) : Rat) + 1 := by
  have main : ∀ {a b : Int}, 0 < b → (b : Rat) * y = a → ((a / b : Int) : Rat) ≤ y ∧ y < ((a / b : Int) : Rat) + 1 := fun {a b} hb h => by
    have e := Int.mul_ediv_add_emod a b
    have r0 := Int.emod_nonneg a (show b ≠ 0 by omega)
    have r1 := Int.emod_lt_of_pos a hb
    have e' : (b : Rat) * ((a / b : Int) : Rat) + ((a % b : Int) : Rat) = (a : Rat) := by exact_mod_cast e
    have q0 := castQ_nonneg.2 r0
    have q1 : 0 < (b : Rat) - ((a % b : Int) : Rat) := by
      have := castQ_pos.2 (show 0 < b - a % b by omega)
      push_cast at this; exact this
    have hb' := castQ_pos.2 hb
    constructor
    · have := pos_of_mulQ (t := (b : Rat)) (y := y - ((a / b : Int) : Rat)) hb' (by grind)
      grind
    · refine Rat.not_le.1 fun hl => ?_
      have := Rat.mul_nonneg (Rat.le_of_lt hb') (show 0 ≤ y - (((a / b : Int) : Rat) + 1) by grind)
      grind
  unfold flr
  split
  · rename_i hp; exact main hp h
  · exact main (b := -b) (a := -a) (by omega) (by push_cast; grind)
theorem floor_unique {m n : Int} {y : Rat} (h1 : (m : Rat) ≤ y) (h2 : y < (m : Rat) + 1) (k1 : (n : Rat) ≤ y) (k2 : y < (n : Rat) + 1) : m = n := by
  have a1 : (m : Rat) < ((n + 1 : Int) : Rat) := by push_cast; grind
  have a2 : (n : Rat) < ((m + 1 : Int) : Rat) := by push_cast; grind
  have a1 : m < n + 1 := by exact_mod_cast a1
  have a2 : n < m + 1 := by exact_mod_cast a2
  omega
def lo1 (x y s t : Int) : Int := x + flr ((y - x) * s) (s - t)
def hi1 (x y s t : Int) : Int := x - flr (-((y - x) * s)) (s - t)
/-- The places around the point that divides a side. -/
def frameP (a b : Pt) (s t : Int) : List Pt := [(lo1 a.1 b.1 s t, lo1 a.2 b.2 s t), (lo1 a.1 b.1 s t, hi1 a.2 b.2 s t), (hi1 a.1 b.1 s t, lo1 a.2 b.2 s t), (hi1 a.1 b.1 s t, hi1 a.2 b.2 s t)]
theorem crosses_ne {s t : Int} (h : crossesB s t = true) : s - t ≠ 0 := by
  rcases crosses_iff.1 h with ⟨h1, h2⟩ | ⟨h1, h2⟩ <;> omega
/-- Where it is. -/
theorem cut_at {s t : Int} (h : crossesB s t = true) : ∃ r : Rat, 0 < r ∧ r < 1 ∧ (1 - r) * (s : Rat) + r * (t : Rat) = 0 := by
  have hd : (s : Rat) - t ≠ 0 := fun e => crosses_ne h (castQ_zero.1 (by push_cast; exact e))
  refine ⟨(s : Rat) / ((s : Rat) - t), ?_, ?_, by grind⟩
  · rcases crosses_iff.1 h with ⟨h1, h2⟩ | ⟨h1, h2⟩
    · have e : (s : Rat) / ((s : Rat) - t) = (-(s : Rat)) / ((t : Rat) - s) := by grind
      rw [e, Rat.div_def]
      have p1 := castQ_pos.2 (show 0 < -s by omega)
      have p2 := castQ_pos.2 (show 0 < t - s by omega)
      push_cast at p1 p2
      exact Rat.mul_pos p1 (Rat.inv_pos.2 p2)
    · rw [Rat.div_def]
      have p1 := castQ_pos.2 h1
      have p2 := castQ_pos.2 (show 0 < s - t by omega)
      push_cast at p2
      exact Rat.mul_pos p1 (Rat.inv_pos.2 p2)
  · have key : 0 < 1 - (s : Rat) / ((s : Rat) - t) := by
      rcases crosses_iff.1 h with ⟨h1, h2⟩ | ⟨h1, h2⟩
      · have e : 1 - (s : Rat) / ((s : Rat) - t) = (t : Rat) / ((t : Rat) - s) := by grind
        rw [e, Rat.div_def]
        have p1 := castQ_pos.2 h2
        have p2 := castQ_pos.2 (show 0 < t - s by omega)
        push_cast at p2
        exact Rat.mul_pos p1 (Rat.inv_pos.2 p2)
      · have e : 1 - (s : Rat) / ((s : Rat) - t) = (-(t : Rat)) / ((s : Rat) - t) := by grind
        rw [e, Rat.div_def]
        have p1 := castQ_pos.2 (show 0 < -t by omega)
        have p2 := castQ_pos.2 (show 0 < s - t by omega)
        push_cast at p1 p2
        exact Rat.mul_pos p1 (Rat.inv_pos.2 p2)
    grind
theorem lo1_spec {x y s t : Int} {r : Rat} (h : crossesB s t = true) (hr : (1 - r) * (s : Rat) + r * (t : Rat) = 0) : ((lo1 x y s t : Int) : Rat) ≤ x + r * ((y : Rat) - x) ∧ x + r * ((y : Rat) - x) < ((lo1 x y s t : Int) : Rat) + 1 := by
  have := flr_spec (a := (y - x) * s) (b := s - t) (crosses_ne h) (y := r * ((y : Rat) - x)) (by push_cast; grind)
  unfold lo1
  push_cast
  constructor <;> grind
theorem hi1_spec {x y s t : Int} {r : Rat} (h : crossesB s t = true) (hr : (1 - r) * (s : Rat) + r * (t : Rat) = 0) : x + r * ((y : Rat) - x) ≤ ((hi1 x y s t : Int) : Rat) ∧ ((hi1 x y s t : Int) : Rat) - 1 < x + r * ((y : Rat) - x) := by
  have := flr_spec (a := -((y - x) * s)) (b := s - t) (crosses_ne h) (y := -(r * ((y : Rat) - x))) (by push_cast; grind)
  unfold hi1
  push_cast
  constructor <;> grind
theorem pickQ {α w : Rat} {f c : Int} (h1 : (f : Rat) ≤ w) (h2 : w ≤ (c : Rat)) : ∃ X : Int, (X = f ∨ X = c) ∧ α * (X : Rat) ≤ α * w := by
  by_cases h : 0 ≤ α
  · have := Rat.mul_nonneg h (show 0 ≤ w - f by grind)
    exact ⟨f, .inl rfl, by grind⟩
  · have := Rat.mul_nonneg (show 0 ≤ -α by grind) (show 0 ≤ (c : Rat) - w by grind)
    exact ⟨c, .inr rfl, by grind⟩
/-- What holds at all places of a frame holds at the crossing. -/
theorem frame_lin {a b : Pt} {s t α β γ : Int} {r : Rat} (h : crossesB s t = true) (hr : (1 - r) * (s : Rat) + r * (t : Rat) = 0) (hf : ∀ y ∈ frameP a b s t, 0 ≤ aff α β γ y) : 0 ≤ (linI α β γ).at (segQ a b r) := by
  obtain ⟨a1, _⟩ := lo1_spec (x := a.1) (y := b.1) h hr
  obtain ⟨a2, _⟩ := hi1_spec (x := a.1) (y := b.1) h hr
  obtain ⟨b1, _⟩ := lo1_spec (x := a.2) (y := b.2) h hr
  obtain ⟨b2, _⟩ := hi1_spec (x := a.2) (y := b.2) h hr
  obtain ⟨X, hX, eX⟩ := pickQ (α := α) a1 a2
  obtain ⟨Y, hY, eY⟩ := pickQ (α := β) b1 b2
  have hm : (X, Y) ∈ frameP a b s t := by
    rcases hX with rfl | rfl <;> rcases hY with rfl | rfl <;> simp [frameP]
  have := linI_nonneg.2 (hf _ hm)
  unfold linI Lin.at q2 at this
  unfold linI Lin.at segQ mvP vecQ q2
  simp only at this ⊢
  grind
/-- A frame's places are near the crossing. -/
theorem frame_near {a b y : Pt} {s t : Int} {r : Rat} (h : crossesB s t = true) (hr : (1 - r) * (s : Rat) + r * (t : Rat) = 0) (hy : y ∈ frameP a b s t) :
    (-1 < (y.1 : Rat) - (segQ a b r).1 ∧ (y.1 : Rat) - (segQ a b r).1 < 1) ∧ -1 < (y.2 : Rat) - (segQ a b r).2 ∧ (y.2 : Rat) - (segQ a b r).2 < 1 := by
  have a1 := lo1_spec (x := a.1) (y := b.1) h hr
  have a2 := hi1_spec (x := a.1) (y := b.1) h hr
  have b1 := lo1_spec (x := a.2) (y := b.2) h hr
  have b2 := hi1_spec (x := a.2) (y := b.2) h hr
  have e1 : (segQ a b r).1 = a.1 + r * ((b.1 : Rat) - a.1) := rfl
  have e2 : (segQ a b r).2 = a.2 + r * ((b.2 : Rat) - a.2) := rfl
  rw [e1, e2]
  simp only [frameP, List.mem_cons, List.not_mem_nil, or_false] at hy
  rcases hy with rfl | rfl | rfl | rfl <;> (simp only; refine ⟨⟨?_, ?_⟩, ?_, ?_⟩ <;> grind)
theorem betw_int {m M n : Int} {w : Rat} (h1 : (m : Rat) ≤ w) (h2 : w ≤ (M : Rat)) (k1 : -1 < (n : Rat) - w) (k2 : (n : Rat) - w < 1) : m ≤ n ∧ n ≤ M := by
  have a1 : ((m - 1 : Int) : Rat) < (n : Rat) := by push_cast; grind
  have a2 : (n : Rat) < ((M + 1 : Int) : Rat) := by push_cast; grind
  have a1 : m - 1 < n := by exact_mod_cast a1
  have a2 : n < M + 1 := by exact_mod_cast a2
  omega
/-- Its places are within the side's rectangle. -/
theorem frame_box {a b y : Pt} {s t : Int} (h : crossesB s t = true) (hy : y ∈ frameP a b s t) {m1 M1 m2 M2 : Int} (ha : m1 ≤ a.1 ∧ a.1 ≤ M1 ∧ m2 ≤ a.2 ∧ a.2 ≤ M2) (hb : m1 ≤ b.1 ∧ b.1 ≤ M1 ∧ m2 ≤ b.2 ∧ b.2 ≤ M2) : m1 ≤ y.1 ∧ y.1 ≤ M1 ∧ m2 ≤ y.2 ∧ y.2 ≤ M2 := by
  obtain ⟨r, r0, r1, hr⟩ := cut_at h
  obtain ⟨⟨n1, n2⟩, n3, n4⟩ := frame_near h hr hy
  have mix : ∀ {x y m M : Int}, m ≤ x ∧ x ≤ M → m ≤ y ∧ y ≤ M → (m : Rat) ≤ x + r * ((y : Rat) - x) ∧ x + r * ((y : Rat) - x) ≤ (M : Rat) := fun {x y m M} hx hy => by
    have p1 := Rat.mul_nonneg (show 0 ≤ 1 - r by grind) (castQ_nonneg.2 (show 0 ≤ x - m by omega))
    have p2 := Rat.mul_nonneg (Rat.le_of_lt r0) (castQ_nonneg.2 (show 0 ≤ y - m by omega))
    have p3 := Rat.mul_nonneg (show 0 ≤ 1 - r by grind) (castQ_nonneg.2 (show 0 ≤ M - x by omega))
    have p4 := Rat.mul_nonneg (Rat.le_of_lt r0) (castQ_nonneg.2 (show 0 ≤ M - y by omega))
    push_cast at p1 p2 p3 p4
    constructor <;> grind
  have g1 := mix ⟨ha.1, ha.2.1⟩ ⟨hb.1, hb.2.1⟩
  have g2 := mix ⟨ha.2.2.1, ha.2.2.2⟩ ⟨hb.2.2.1, hb.2.2.2⟩
  have z1 := betw_int g1.1 g1.2 n1 n2
  have z2 := betw_int g2.1 g2.2 n3 n4
  exact ⟨z1.1, z1.2, z2.1, z2.2⟩
/-- A frame about the same point by another side. -/
theorem frame_same {a b c d : Pt} (h : crossesB (crossP a b c) (crossP a b d) = true) (k : crossesB (crossP c d a) (crossP c d b) = true) : frameP c d (crossP a b c) (crossP a b d) = frameP a b (crossP c d a) (crossP c d b) := by
  obtain ⟨r, r0, r1, hr⟩ := cut_at h
  have hab : a ≠ b := fun e => by
    subst e
    have : ∀ y, crossP a a y = 0 := fun y => by unfold crossP cross; grind
    rw [this, this] at h; cases h
  obtain ⟨u, hu⟩ := on_line (w := segQ c d r) hab (by rw [segQ_at, sideQ_at, sideQ_at]; exact hr)
  have hu' : (1 - u) * ((crossP c d a : Int) : Rat) + u * ((crossP c d b : Int) : Rat) = 0 := by
    rw [← sideQ_at, ← sideQ_at, ← segQ_at, ← hu, segQ_at, sideQ_l, sideQ_r]; grind
  have e1 : c.1 + r * ((d.1 : Rat) - c.1) = a.1 + u * ((b.1 : Rat) - a.1) := congrArg (fun w : P2 => w.1) hu
  have e2 : c.2 + r * ((d.2 : Rat) - c.2) = a.2 + u * ((b.2 : Rat) - a.2) := congrArg (fun w : P2 => w.2) hu
  have lo : ∀ {x y x' y' : Int}, (x : Rat) + r * ((y : Rat) - x) = x' + u * ((y' : Rat) - x') → lo1 x y (crossP a b c) (crossP a b d) = lo1 x' y' (crossP c d a) (crossP c d b) := fun {x y x' y'} e => by
    have g1 := lo1_spec (x := x) (y := y) h hr
    have g2 := lo1_spec (x := x') (y := y') k hu'
    rw [e] at g1
    exact floor_unique g1.1 g1.2 g2.1 g2.2
  have hi : ∀ {x y x' y' : Int}, (x : Rat) + r * ((y : Rat) - x) = x' + u * ((y' : Rat) - x') → hi1 x y (crossP a b c) (crossP a b d) = hi1 x' y' (crossP c d a) (crossP c d b) := fun {x y x' y'} e => by
    have g1 := hi1_spec (x := x) (y := y) h hr
    have g2 := hi1_spec (x := x') (y := y') k hu'
    rw [e] at g1
    have a1 : ((hi1 x y (crossP a b c) (crossP a b d) : Int) : Rat) < ((hi1 x' y' (crossP c d a) (crossP c d b) + 1 : Int) : Rat) := by push_cast; grind
    have a2 : ((hi1 x' y' (crossP c d a) (crossP c d b) : Int) : Rat) < ((hi1 x y (crossP a b c) (crossP a b d) + 1 : Int) : Rat) := by push_cast; grind
    have a1 : hi1 x y (crossP a b c) (crossP a b d) < hi1 x' y' (crossP c d a) (crossP c d b) + 1 := by exact_mod_cast a1
    have a2 : hi1 x' y' (crossP c d a) (crossP c d b) < hi1 x y (crossP a b c) (crossP a b d) + 1 := by exact_mod_cast a2
    omega
  unfold frameP
  rw [lo e1, lo e2, hi e1, hi e2]
end Go.Proofs.Ytlihojecopfgfaa

/- Hulls with any number of corners, plainly; the bounds of lists. -/
namespace Go.Proofs.Ytlihojecopfgfaa
open Go
theorem mem_64 {l : List Pt} (h : ∀ p ∈ l, placeB p = true) : i64P l := fun i hi => place_64 (h _ (gp_mem hi))
theorem hullB_small {l : List Pt} (hp : ∀ p ∈ l, placeB p = true) (hne : l ≠ []) (hl : l.length ≤ 64) : hullB l = (aroundP l, 0) := by
  have h1 := hl_len (around_hl hne)
  unfold hullB
  rw [if_neg (by omega), if_neg, if_neg (by omega)]
  rintro (h | h)
  · exact hne h
  · rw [List.all_eq_true.2 hp] at h; cases h
theorem hullB_mid {l : List Pt} (hp : ∀ p ∈ l, placeB p = true) (hne : l ≠ []) (hl : l.length ≤ 4000) : hullB l = if (aroundP l).length ≤ 64 then (aroundP l, 0) else ([], 2) := by
  unfold hullB
  rw [if_neg (by omega), if_neg]
  · split <;> split <;> first | rfl | omega
  rintro (h | h)
  · exact hne h
  · rw [List.all_eq_true.2 hp] at h; cases h
theorem valid_small {l : List Pt} (hp : ∀ p ∈ l, placeB p = true) (hne : l ≠ []) (hl : (aroundP l).length ≤ 64) : validB (aroundP l) = true := (around_hl hne).valid hp hl
theorem valid_mem {p : List Pt} (h : validB p = true) : ∀ x ∈ p, placeB x = true := fun x hx => by
  obtain ⟨i, hi, rfl⟩ := mem_gp hx
  exact valid_place h hi
theorem lo_le {g : Pt → Int} {A B : List Pt} (hA : 1 ≤ A.length) (hB : 1 ≤ B.length) (h : ∀ x ∈ A, loB g B ≤ g x) (k : ∀ x ∈ B, loB g A ≤ g x) : loB g A = loB g B := by
  obtain ⟨_, y, hy, e⟩ := lo_spec g hA
  obtain ⟨_, z, hz, f⟩ := lo_spec g hB
  have := h y hy
  have := k z hz
  omega
theorem hi_le {g : Pt → Int} {A B : List Pt} (hA : 1 ≤ A.length) (hB : 1 ≤ B.length) (h : ∀ x ∈ A, g x ≤ hiB g B) (k : ∀ x ∈ B, g x ≤ hiB g A) : hiB g A = hiB g B := by
  obtain ⟨_, y, hy, e⟩ := hi_spec g hA
  obtain ⟨_, z, hz, f⟩ := hi_spec g hB
  have := h y hy
  have := k z hz
  omega
/-- The bounds of two lists are the same, if each list's places are within those of the other one. -/
theorem b8_ext {A B : List Pt} (hA : 1 ≤ A.length) (hB : 1 ≤ B.length) (h : ∀ x ∈ A, (b8 B).has x) (k : ∀ x ∈ B, (b8 A).has x) : b8 A = b8 B := by
  show (⟨loB fX A, hiB fX A, loB fY A, hiB fY A, loB fS A, hiB fS A, loB fD A, hiB fD A⟩ : B8) = ⟨loB fX B, hiB fX B, loB fY B, hiB fY B, loB fS B, hiB fS B, loB fD B, hiB fD B⟩
  rw [lo_le (g := fX) hA hB (fun x hx => (h x hx).1) (fun x hx => (k x hx).1),
    hi_le (g := fX) hA hB (fun x hx => (h x hx).2.1) (fun x hx => (k x hx).2.1),
    lo_le (g := fY) hA hB (fun x hx => (h x hx).2.2.1) (fun x hx => (k x hx).2.2.1),
    hi_le (g := fY) hA hB (fun x hx => (h x hx).2.2.2.1) (fun x hx => (k x hx).2.2.2.1),
    lo_le (g := fS) hA hB (fun x hx => (h x hx).2.2.2.2.1) (fun x hx => (k x hx).2.2.2.2.1),
    hi_le (g := fS) hA hB (fun x hx => (h x hx).2.2.2.2.2.1) (fun x hx => (k x hx).2.2.2.2.2.1),
    lo_le (g := fD) hA hB (fun x hx => (h x hx).2.2.2.2.2.2.1) (fun x hx => (k x hx).2.2.2.2.2.2.1),
    hi_le (g := fD) hA hB (fun x hx => (h x hx).2.2.2.2.2.2.2) (fun x hx => (k x hx).2.2.2.2.2.2.2)]
/-- A further list only widens them. -/
theorem b8_mono {A B : List Pt} (hA : 1 ≤ A.length) (hB : 1 ≤ B.length) (h : ∀ x ∈ A, (b8 B).has x) {y : Pt} (hy : (b8 A).has y) : (b8 B).has y := by
  have lo : ∀ g : Pt → Int, (∀ x ∈ A, loB g B ≤ g x) → loB g B ≤ loB g A := fun g hg => by
    obtain ⟨_, z, hz, e⟩ := lo_spec g hA
    rw [e]; exact hg z hz
  have hi : ∀ g : Pt → Int, (∀ x ∈ A, g x ≤ hiB g B) → hiB g A ≤ hiB g B := fun g hg => by
    obtain ⟨_, z, hz, e⟩ := hi_spec g hA
    rw [e]; exact hg z hz
  obtain ⟨h1, h2, h3, h4, h5, h6, h7, h8⟩ := hy
  exact ⟨Int.le_trans (lo fX fun x hx => (h x hx).1) h1, Int.le_trans h2 (hi fX fun x hx => (h x hx).2.1),
    Int.le_trans (lo fY fun x hx => (h x hx).2.2.1) h3, Int.le_trans h4 (hi fY fun x hx => (h x hx).2.2.2.1),
    Int.le_trans (lo fS fun x hx => (h x hx).2.2.2.2.1) h5, Int.le_trans h6 (hi fS fun x hx => (h x hx).2.2.2.2.2.1),
    Int.le_trans (lo fD fun x hx => (h x hx).2.2.2.2.2.2.1) h7, Int.le_trans h8 (hi fD fun x hx => (h x hx).2.2.2.2.2.2.2)⟩
theorem ne_len {l : List Pt} (h : l ≠ []) : 1 ≤ l.length := List.length_pos_iff.2 h
theorem b8_around {S : List Pt} (hne : S ≠ []) (hv : validB (aroundP S) = true) : b8 (aroundP S) = b8 S :=
  b8_ext (len_one hv).1 (ne_len hne) (fun x hx => b8_has (ne_len hne) x ((around_hl hne).sub x hx)) fun x hx => has_b8 hv ((around_hl hne).has hx)
/-- What holds at all corners of a hull holds at each place that it has. -/
theorem corners_hl {S q : List Pt} (h : Hl S q) {x : Pt} (hx : hasB q x = true) (a b c : Int) (hc : ∀ i, i < q.length → 0 ≤ aff a b c (gp q i)) : 0 ≤ aff a b c x := by
  by_cases h64 : q.length ≤ 2
  · have hn := h.pos
    unfold hasB at hx
    split at hx
    · have : gp q 0 = x := by simpa using hx
      rw [← this]; exact hc 0 (by omega)
    rw [if_pos (by omega)] at hx
    simp only [Bool.and_eq_true, decide_eq_true_eq, betwB] at hx
    obtain ⟨hz, b1, b2, b3, b4⟩ := hx
    have hl : lexLt (gp q 0) (gp q 1) := by
      cases h with
      | one a hp _ _ => subst hp; rename_i h1; exact absurd rfl h1
      | many h =>
        rcases lexLe_cases (h.fst _ (h.side 1 (by omega)).1) with g | g
        · exact g
        · exact absurd g (h.inj 0 1 (by omega) (by omega))
    have c0 := hc 0 (by omega)
    have c1 := hc 1 (by omega)
    unfold lexLt at hl
    rcases hl with hl | ⟨he, hl⟩
    · refine pos_of_mul (t := (gp q 1).1 - (gp q 0).1) (by omega) ?_
      rw [seg_x, hz]
      have g1 := Int.mul_nonneg (show 0 ≤ (gp q 1).1 - x.1 by omega) c0
      have g2 := Int.mul_nonneg (show 0 ≤ x.1 - (gp q 0).1 by omega) c1
      omega
    · refine pos_of_mul (t := (gp q 1).2 - (gp q 0).2) (by omega) ?_
      rw [seg_y, hz]
      have g1 := Int.mul_nonneg (show 0 ≤ (gp q 1).2 - x.2 by omega) c0
      have g2 := Int.mul_nonneg (show 0 ≤ x.2 - (gp q 0).2 by omega) c1
      omega
  · cases h with
    | one a hp _ _ => subst hp; exact absurd (show 1 ≤ 2 by decide) h64
    | many h =>
      unfold hasB at hx
      rw [if_neg (by omega), if_neg (by omega)] at hx
      have hs : ∀ i, i < q.length → 0 ≤ crossP (gp q i) (gp q ((i + 1) % q.length)) x := fun i hi => by
        have := all_iff.1 hx i hi
        simpa [sideB] using this
      have s0 := hs 0 (by omega)
      rw [Nat.mod_eq_of_lt (show 0 + 1 < q.length by omega)] at s0
      have sn := hs (q.length - 1) (by omega)
      rw [show q.length - 1 + 1 = q.length by omega, Nat.mod_self] at sn
      obtain ⟨i, i1, i2, p1, p2⟩ := sign_change (fun i => crossP (gp q 0) (gp q i) x) (q.length - 3) s0 (by
        show crossP (gp q 0) (gp q (q.length - 3 + 2)) x ≤ 0
        rw [show q.length - 3 + 2 = q.length - 1 by omega, cross_flip]; omega)
      have hsi := hs i (by omega)
      rw [Nat.mod_eq_of_lt (show i + 1 < q.length by omega)] at hsi
      have ht : 0 < crossP (gp q 0) (gp q i) (gp q (i + 1)) := by
        have e := h.strict (i := i) (by omega) (k := 0) (by omega) (by omega) (by rw [Nat.mod_eq_of_lt (by omega)]; omega)
        rw [Nat.mod_eq_of_lt (show i + 1 < q.length by omega)] at e
        rw [cross_rot] at e; exact e
      refine pos_of_mul ht ?_
      rw [bary]
      have g1 := Int.mul_nonneg hsi (hc 0 (by omega))
      have g2 := Int.mul_nonneg (show 0 ≤ crossP (gp q (i + 1)) (gp q 0) x by rw [cross_flip]; omega) (hc i (by omega))
      have g3 := Int.mul_nonneg p1 (hc (i + 1) (by omega))
      omega
theorem b8_hl {S q : List Pt} (h : Hl S q) {x : Pt} (hx : hasB q x = true) : (b8 q).has x := by
  have k := fun α β γ => corners_hl h hx α β γ
  have c := fun i hi => b8_has h.pos (gp q i) (gp_mem hi)
  unfold B8.has at c
  refine ⟨?_, ?_, ?_, ?_, ?_, ?_, ?_, ?_⟩
  · have := k 1 0 (-(b8 q).a) (fun i hi => by have := c i hi; unfold aff; omega)
    unfold aff at this; omega
  · have := k (-1) 0 (b8 q).b (fun i hi => by have := c i hi; unfold aff; omega)
    unfold aff at this; omega
  · have := k 0 1 (-(b8 q).c) (fun i hi => by have := c i hi; unfold aff; omega)
    unfold aff at this; omega
  · have := k 0 (-1) (b8 q).d (fun i hi => by have := c i hi; unfold aff; omega)
    unfold aff at this; omega
  · have := k 1 1 (-(b8 q).s) (fun i hi => by have := c i hi; unfold aff; omega)
    unfold aff at this; omega
  · have := k (-1) (-1) (b8 q).t (fun i hi => by have := c i hi; unfold aff; omega)
    unfold aff at this; omega
  · have := k 1 (-1) (-(b8 q).u) (fun i hi => by have := c i hi; unfold aff; omega)
    unfold aff at this; omega
  · have := k (-1) 1 (b8 q).v (fun i hi => by have := c i hi; unfold aff; omega)
    unfold aff at this; omega
theorem b8_all {S : List Pt} (hne : S ≠ []) : b8 (aroundP S) = b8 S :=
  b8_ext (around_hl hne).pos (ne_len hne) (fun x hx => b8_has (ne_len hne) x ((around_hl hne).sub x hx)) fun x hx => b8_hl (around_hl hne) ((around_hl hne).has hx)
theorem b8_gen {p : List Pt} (hn : 1 ≤ p.length) (hP : ∀ x ∈ p, placeB x = true) : (-500000 ≤ (b8 p).a ∧ (b8 p).b ≤ 500000 ∧ -500000 ≤ (b8 p).c ∧ (b8 p).d ≤ 500000) ∧ (b8 p).In ∧ (∀ x ∈ (b8 p).pts, placeB x = true) ∧ Hl (b8 p).pts (eightP p) := by
  have hm := b8_met hn
  have hi := hm.in
  have bd : ∀ y ∈ p, -500000 ≤ y.1 ∧ y.1 ≤ 500000 ∧ -500000 ≤ y.2 ∧ y.2 ≤ 500000 := fun y hy => place_bd (hP y hy)
  obtain ⟨y1, m1, e1⟩ := (lo_spec fX hn).2
  obtain ⟨y2, m2, e2⟩ := (hi_spec fX hn).2
  obtain ⟨y3, m3, e3⟩ := (lo_spec fY hn).2
  obtain ⟨y4, m4, e4⟩ := (hi_spec fY hn).2
  have b1 := bd y1 m1
  have b2 := bd y2 m2
  have b3 := bd y3 m3
  have b4 := bd y4 m4
  unfold fX at e1 e2
  unfold fY at e3 e4
  have f1 : (b8 p).a = y1.1 := e1
  have f2 : (b8 p).b = y2.1 := e2
  have f3 : (b8 p).c = y3.2 := e3
  have f4 : (b8 p).d = y4.2 := e4
  refine ⟨by omega, hi, fun x hx => ?_, ?_⟩
  · have hx := hi.pts_has x hx
    unfold B8.has at hx
    simp only [placeB, isCb, Bool.and_eq_true, decide_eq_true_eq]
    omega
  · unfold eightP
    rw [hi.eq]
    exact around_hl (by simp [B8.pts])
end Go.Proofs.Ytlihojecopfgfaa

/- Package cut, plainly: what is kept, what is shared, and its hull or octagon. -/
namespace Go.Proofs.Ytlihojecopfgfaa
open Go
def octL (l : List Pt) : List Pt := aroundP (b8 l).ptsP
/-- The hull of places, or their octagon, if it has too many corners. -/
def arC (l : List Pt) : List Pt := if l = [] then [] else if l.length ≤ 4000 ∧ (aroundP l).length ≤ 64 then aroundP l else octL l
theorem oct_spec {l : List Pt} (hne : l ≠ []) (hP : ∀ x ∈ l, placeB x = true) : Hl (b8 l).pts (octL l) ∧ validB (octL l) = true ∧ (octL l).length ≤ 8 ∧ (b8 l).In ∧ ∀ x, (b8 l).has x → hasB (octL l) x = true := by
  obtain ⟨_, hi, hpl, hh⟩ := b8_gen (ne_len hne) hP
  have hh : Hl (b8 l).pts (octL l) := hh
  have h8 : (octL l).length ≤ 8 := hl_len hh
  exact ⟨hh, hh.valid hpl (by omega), h8, hi, fun x hx => hl_lin hh fun α β γ h => B8.lin hx α β γ h⟩
def linIn (ps : List Pt) (x : Pt) : Prop := ∀ α β γ : Int, (∀ y ∈ ps, 0 ≤ aff α β γ y) → 0 ≤ aff α β γ x
theorem lin_b8 {l : List Pt} (hne : l ≠ []) {x : Pt} (hx : linIn l x) : (b8 l).has x := by
  have c := b8_has (ne_len hne)
  unfold B8.has at c
  refine ⟨?_, ?_, ?_, ?_, ?_, ?_, ?_, ?_⟩
  · have := hx 1 0 (-(b8 l).a) (fun y hy => by have := c y hy; unfold aff; omega)
    unfold aff at this; omega
  · have := hx (-1) 0 (b8 l).b (fun y hy => by have := c y hy; unfold aff; omega)
    unfold aff at this; omega
  · have := hx 0 1 (-(b8 l).c) (fun y hy => by have := c y hy; unfold aff; omega)
    unfold aff at this; omega
  · have := hx 0 (-1) (b8 l).d (fun y hy => by have := c y hy; unfold aff; omega)
    unfold aff at this; omega
  · have := hx 1 1 (-(b8 l).s) (fun y hy => by have := c y hy; unfold aff; omega)
    unfold aff at this; omega
  · have := hx (-1) (-1) (b8 l).t (fun y hy => by have := c y hy; unfold aff; omega)
    unfold aff at this; omega
  · have := hx 1 (-1) (-(b8 l).u) (fun y hy => by have := c y hy; unfold aff; omega)
    unfold aff at this; omega
  · have := hx (-1) 1 (b8 l).v (fun y hy => by have := c y hy; unfold aff; omega)
    unfold aff at this; omega
theorem lin_ne {l : List Pt} {x : Pt} (hx : linIn l x) : l ≠ [] := fun e => by
  have := hx 0 0 (-1) (fun y hy => by rw [e] at hy; cases hy)
  unfold aff at this; omega
theorem arC_valid {l : List Pt} (hne : l ≠ []) (hP : ∀ x ∈ l, placeB x = true) : validB (arC l) = true := by
  unfold arC
  rw [if_neg hne]
  split
  · rename_i h; exact valid_small hP hne h.2
  · exact (oct_spec hne hP).2.1
theorem arC_has {l : List Pt} (hP : ∀ x ∈ l, placeB x = true) {x : Pt} (hx : linIn l x) : hasB (arC l) x = true := by
  have hne := lin_ne hx
  unfold arC
  rw [if_neg hne]
  split
  · exact hl_lin (around_hl hne) hx
  · exact (oct_spec hne hP).2.2.2.2 x (lin_b8 hne hx)
/-- Its corners are within the rectangle of the places. -/
theorem arC_box {l : List Pt} (hP : ∀ x ∈ l, placeB x = true) {m1 M1 m2 M2 : Int} (hb : ∀ x ∈ l, m1 ≤ x.1 ∧ x.1 ≤ M1 ∧ m2 ≤ x.2 ∧ x.2 ≤ M2) : ∀ y ∈ arC l, m1 ≤ y.1 ∧ y.1 ≤ M1 ∧ m2 ≤ y.2 ∧ y.2 ≤ M2 := by
  intro y hy
  unfold arC at hy
  by_cases hne : l = []
  · rw [if_pos hne] at hy; cases hy
  rw [if_neg hne] at hy
  split at hy
  · exact hb y ((around_hl hne).sub y hy)
  · obtain ⟨h1, _, _, h4, _⟩ := oct_spec hne hP
    have hx := h4.pts_has y (h1.sub y hy)
    unfold B8.has at hx
    obtain ⟨y1, m1', e1⟩ := (lo_spec fX (ne_len hne)).2
    obtain ⟨y2, m2', e2⟩ := (hi_spec fX (ne_len hne)).2
    obtain ⟨y3, m3', e3⟩ := (lo_spec fY (ne_len hne)).2
    obtain ⟨y4, m4', e4⟩ := (hi_spec fY (ne_len hne)).2
    have b1 := hb y1 m1'
    have b2 := hb y2 m2'
    have b3 := hb y3 m3'
    have b4 := hb y4 m4'
    unfold fX at e1 e2
    unfold fY at e3 e4
    have f1 : (b8 l).a = y1.1 := e1
    have f2 : (b8 l).b = y2.1 := e2
    have f3 : (b8 l).c = y3.2 := e3
    have f4 : (b8 l).d = y4.2 := e4
    omega
theorem arC_b8 {l : List Pt} (hne : l ≠ []) (hP : ∀ x ∈ l, placeB x = true) : b8 (arC l) = b8 l := by
  unfold arC
  rw [if_neg hne]
  split
  · exact b8_all hne
  · obtain ⟨h1, h2, _, h4, h5⟩ := oct_spec hne hP
    exact b8_ext (len_one h2).1 (ne_len hne) (fun x hx => h4.pts_has x (h1.sub x hx)) fun x hx => has_b8 h2 (h5 x (b8_has (ne_len hne) x hx))
/-- The parts' octagons together: the octagon. -/
theorem arC_parts {l A B : List Pt} (hA : A ≠ []) (hB : B ≠ []) (hl : l = A ++ B) (hP : ∀ x ∈ l, placeB x = true) :
    validB (arC A) = true ∧ validB (arC B) = true ∧ validB (arC (eightP (arC A) ++ eightP (arC B))) = true ∧ eightP (arC (eightP (arC A) ++ eightP (arC B))) = octL l ∧ eightP (arC A) ++ eightP (arC B) ≠ [] ∧ (∀ x ∈ eightP (arC A) ++ eightP (arC B), placeB x = true) ∧ (eightP (arC A) ++ eightP (arC B)).length ≤ 16 := by
  have pA : ∀ x ∈ A, placeB x = true := fun x hx => hP x (by rw [hl]; exact List.mem_append.2 (.inl hx))
  have pB : ∀ x ∈ B, placeB x = true := fun x hx => hP x (by rw [hl]; exact List.mem_append.2 (.inr hx))
  have vA := arC_valid hA pA
  have vB := arC_valid hB pB
  obtain ⟨_, a2, a3, a4, _⟩ := eight_spec vA
  obtain ⟨_, b2, b3, b4, _⟩ := eight_spec vB
  have hne : eightP (arC A) ++ eightP (arC B) ≠ [] := fun e => by
    have := (len_one a2).1
    have e := congrArg List.length e
    rw [List.length_append] at e
    simp only [List.length_nil] at e
    omega
  have hpl : ∀ x ∈ eightP (arC A) ++ eightP (arC B), placeB x = true := fun x hx => by
    rcases List.mem_append.1 hx with hx | hx
    · exact valid_mem a2 x hx
    · exact valid_mem b2 x hx
  have hlne : l ≠ [] := fun e => by rw [hl] at e; exact hA (List.append_eq_nil_iff.1 e).1
  refine ⟨vA, vB, arC_valid hne hpl, ?_, hne, hpl, by rw [List.length_append]; omega⟩
  show aroundP (b8 (arC (eightP (arC A) ++ eightP (arC B)))).ptsP = aroundP (b8 l).ptsP
  rw [arC_b8 hne hpl]
  have e : b8 (eightP (arC A) ++ eightP (arC B)) = b8 l := by
    have eA : b8 (eightP (arC A)) = b8 A := by rw [a4, arC_b8 hA pA]
    have eB : b8 (eightP (arC B)) = b8 B := by rw [b4, arC_b8 hB pB]
    refine b8_ext (ne_len hne) (ne_len hlne) (fun x hx => ?_) fun x hx => ?_
    · rcases List.mem_append.1 hx with hx | hx
      · refine b8_mono (ne_len hA) (ne_len hlne) (fun z hz => b8_has (ne_len hlne) z (by rw [hl]; exact List.mem_append.2 (.inl hz))) ?_
        rw [← eA]; exact b8_has (len_one a2).1 x hx
      · refine b8_mono (ne_len hB) (ne_len hlne) (fun z hz => b8_has (ne_len hlne) z (by rw [hl]; exact List.mem_append.2 (.inr hz))) ?_
        rw [← eB]; exact b8_has (len_one b2).1 x hx
    · rw [hl] at hx
      rcases List.mem_append.1 hx with hx | hx
      · refine b8_mono (len_one a2).1 (ne_len hne) (fun z hz => b8_has (ne_len hne) z (List.mem_append.2 (.inl hz))) ?_
        rw [eA]; exact b8_has (ne_len hA) x hx
      · refine b8_mono (len_one b2).1 (ne_len hne) (fun z hz => b8_has (ne_len hne) z (List.mem_append.2 (.inr hz))) ?_
        rw [eB]; exact b8_has (ne_len hB) x hx
  rw [e]
theorem arC_congr {l m : List Pt} (h : ∀ x, x ∈ l ↔ x ∈ m) (hl : l.length = m.length) : arC l = arC m := by
  by_cases e : l = []
  · subst e
    have : m = [] := List.length_eq_zero_iff.1 hl.symm
    rw [this]
  have e2 : m ≠ [] := fun e' => e (List.length_eq_zero_iff.1 (by rw [hl, e']; rfl))
  have ha : aroundP l = aroundP m := (around_eq ((around_hl e2).congr fun x => h x))
  have hb : b8 l = b8 m := b8_ext (ne_len e) (ne_len e2) (fun x hx => b8_has (ne_len e2) x ((h x).1 hx)) fun x hx => b8_has (ne_len e) x ((h x).2 hx)
  unfold arC octL
  rw [if_neg e, if_neg e2, ha, hb, hl]
end Go.Proofs.Ytlihojecopfgfaa

/- Package cut, plainly: what a half-plane keeps of a polygon; what two polygons share. -/
namespace Go.Proofs.Ytlihojecopfgfaa
open Go
def ovr (A B C : Int) (x : Pt) : Int := A * x.1 + B * x.2 - C
/-- What is kept of a side. -/
def keepL (p : List Pt) (A B C : Int) (i : Nat) : List Pt := (if ovr A B C (gp p i) ≤ 0 then [gp p i] else []) ++ (if crossesB (ovr A B C (gp p i)) (ovr A B C (nx p i)) = true then frameP (gp p i) (nx p i) (ovr A B C (gp p i)) (ovr A B C (nx p i)) else [])
def cutL (p : List Pt) (A B C : Int) (k : Nat) : List Pt := (List.range k).flatMap (keepL p A B C)
def cutA (p : List Pt) (A B C : Int) : List Pt := cutL p A B C p.length
theorem cutL_step (p : List Pt) (A B C : Int) (k : Nat) : cutL p A B C (k + 1) = cutL p A B C k ++ keepL p A B C k := by unfold cutL; rw [List.range_succ, List.flatMap_append]; simp
theorem mem_cutA {p : List Pt} {A B C : Int} {y : Pt} : y ∈ cutA p A B C ↔ ∃ i, i < p.length ∧ y ∈ keepL p A B C i := by unfold cutA cutL; simp only [List.mem_flatMap, List.mem_range]
theorem mem_keepL {p : List Pt} {A B C : Int} {i : Nat} {y : Pt} : y ∈ keepL p A B C i ↔ (ovr A B C (gp p i) ≤ 0 ∧ y = gp p i) ∨ (crossesB (ovr A B C (gp p i)) (ovr A B C (nx p i)) = true ∧ y ∈ frameP (gp p i) (nx p i) (ovr A B C (gp p i)) (ovr A B C (nx p i))) := by
  unfold keepL
  rw [List.mem_append]
  constructor
  · rintro (h | h)
    · split at h
      · rename_i g; exact .inl ⟨g, by simpa using h⟩
      · cases h
    · split at h
      · rename_i g; exact .inr ⟨g, h⟩
      · cases h
  · rintro (⟨g, rfl⟩ | ⟨g, h⟩)
    · exact .inl (by rw [if_pos g]; simp)
    · exact .inr (by rw [if_pos g]; exact h)
theorem keepL_len (p : List Pt) (A B C : Int) (i : Nat) : (keepL p A B C i).length ≤ 5 := by
  unfold keepL
  rw [List.length_append]
  split <;> split <;> simp [frameP]
theorem cutL_len (p : List Pt) (A B C : Int) : ∀ k, (cutL p A B C k).length ≤ 5 * k
  | 0 => by simp [cutL]
  | k + 1 => by
    have := cutL_len p A B C k
    have := keepL_len p A B C k
    rw [cutL_step, List.length_append]; omega
theorem corner_at {p : List Pt} {y : Pt} (hy : y ∈ p) : ∃ i, i < p.length ∧ gp p i = y := mem_gp hy
/-- What a half-plane leaves of a polygon has each place of both. -/
theorem cut_in {p : List Pt} (hp : validB p = true) {A B C : Int} (hAB : ¬ (A = 0 ∧ B = 0)) {x : Pt} (hx : hasB p x = true) (hg : ovr A B C x ≤ 0) : linIn (cutA p A B C) x := by
  intro α β γ hall
  refine Int.not_lt.1 fun hl => ?_
  refine cut_neg (f := linI α β γ) hp (A := A) (B := B) (C := C) hAB (fun y hy hg' => ?_) (fun i hi hc r hr => ?_) hx hg ?_
  · obtain ⟨i, hi, rfl⟩ := mem_gp hy
    have := linI_nonneg.2 (hall _ (mem_cutA.2 ⟨i, hi, mem_keepL.2 (.inl ⟨hg', rfl⟩)⟩))
    exact Rat.not_lt.2 this
  · have := frame_lin (α := α) (β := β) (γ := γ) hc hr fun y hy => hall _ (mem_cutA.2 ⟨i, hi, mem_keepL.2 (.inr ⟨hc, hy⟩)⟩)
    exact Rat.not_lt.2 this
  · rw [linI_at]
    have : ((aff α β γ x : Int) : Rat) < ((0 : Int) : Rat) := by exact_mod_cast hl
    exact_mod_cast this
theorem cut_box {p : List Pt} {A B C m1 M1 m2 M2 : Int} (hb : ∀ x ∈ p, m1 ≤ x.1 ∧ x.1 ≤ M1 ∧ m2 ≤ x.2 ∧ x.2 ≤ M2) : ∀ y ∈ cutA p A B C, m1 ≤ y.1 ∧ y.1 ≤ M1 ∧ m2 ≤ y.2 ∧ y.2 ≤ M2 := by
  intro y hy
  obtain ⟨i, hi, hy⟩ := mem_cutA.1 hy
  rcases mem_keepL.1 hy with ⟨_, rfl⟩ | ⟨hc, hy⟩
  · exact hb _ (gp_mem hi)
  · exact frame_box hc hy (hb _ (gp_mem hi)) (hb _ (nx_mem hi))
theorem place_box {x : Pt} : placeB x = true ↔ -500000 ≤ x.1 ∧ x.1 ≤ 500000 ∧ -500000 ≤ x.2 ∧ x.2 ≤ 500000 := by
  simp only [placeB, isCb, Bool.and_eq_true, decide_eq_true_eq]; omega
theorem cut_place {p : List Pt} (hp : validB p = true) (A B C : Int) : ∀ y ∈ cutA p A B C, placeB y = true := fun y hy =>
  place_box.2 (cut_box (fun x hx => place_box.1 (valid_mem hp x hx)) y hy)
/-! ### Two polygons -/
def cellX (p q : List Pt) (i j : Nat) : List Pt := if crossIJ p q i j = true then frameP (gp q j) (nx q j) (crossP (gp p i) (nx p i) (gp q j)) (crossP (gp p i) (nx p i) (nx q j)) else []
def rowX (p q : List Pt) (i k : Nat) : List Pt := (List.range k).flatMap (cellX p q i)
def crosX (p q : List Pt) (k : Nat) : List Pt := (List.range k).flatMap fun i => rowX p q i q.length
def crosA (p q : List Pt) : List Pt := crosX p q p.length
def cornA (p q : List Pt) : List Pt := p.filter (hasB q)
def sharA (p q : List Pt) : List Pt := cornA p q ++ (cornA q p ++ crosA p q)
theorem rowX_step (p q : List Pt) (i k : Nat) : rowX p q i (k + 1) = rowX p q i k ++ cellX p q i k := by unfold rowX; rw [List.range_succ, List.flatMap_append]; simp
theorem crosX_step (p q : List Pt) (k : Nat) : crosX p q (k + 1) = crosX p q k ++ rowX p q k q.length := by unfold crosX; rw [List.range_succ, List.flatMap_append]; simp
theorem mem_crosA {p q : List Pt} {y : Pt} : y ∈ crosA p q ↔ ∃ i j, i < p.length ∧ j < q.length ∧ crossIJ p q i j = true ∧ y ∈ frameP (gp q j) (nx q j) (crossP (gp p i) (nx p i) (gp q j)) (crossP (gp p i) (nx p i) (nx q j)) := by
  unfold crosA crosX rowX
  simp only [List.mem_flatMap, List.mem_range, cellX]
  constructor
  · rintro ⟨i, hi, j, hj, h⟩
    split at h
    · rename_i g; exact ⟨i, j, hi, hj, g, h⟩
    · cases h
  · rintro ⟨i, j, hi, hj, g, h⟩
    exact ⟨i, hi, j, hj, by rw [if_pos g]; exact h⟩
theorem cellX_len (p q : List Pt) (i j : Nat) : (cellX p q i j).length = if crossIJ p q i j = true then 4 else 0 := by
  unfold cellX; split <;> rfl
theorem rowX_len (p q : List Pt) (i : Nat) : ∀ k, (rowX p q i k).length ≤ 4 * k
  | 0 => by simp [rowX]
  | k + 1 => by
    have := rowX_len p q i k
    have e := cellX_len p q i k
    rw [rowX_step, List.length_append, e]
    split <;> omega
theorem crosX_len (p q : List Pt) (hq : q.length ≤ 64) : ∀ k, (crosX p q k).length ≤ 256 * k
  | 0 => by simp [crosX]
  | k + 1 => by
    have := crosX_len p q hq k
    have := rowX_len p q k q.length
    rw [crosX_step, List.length_append]; omega
theorem mem_cornA {p q : List Pt} {y : Pt} : y ∈ cornA p q ↔ y ∈ p ∧ hasB q y = true := by unfold cornA; exact List.mem_filter
theorem mem_sharA {p q : List Pt} {y : Pt} : y ∈ sharA p q ↔ (y ∈ p ∧ hasB q y = true) ∨ (y ∈ q ∧ hasB p y = true) ∨ y ∈ crosA p q := by
  unfold sharA; rw [List.mem_append, List.mem_append, mem_cornA, mem_cornA]
theorem shar_in {p q : List Pt} (hp : validB p = true) (hq : validB q = true) {x : Pt} (hx : hasB p x = true) (hy : hasB q x = true) : linIn (sharA p q) x := by
  intro α β γ hall
  refine Int.not_lt.1 fun hl => ?_
  have E : EndOf p q (linI α β γ) := by
    refine ⟨fun y hy' h => Rat.not_lt.2 (linI_nonneg.2 (hall _ (mem_sharA.2 (.inl ⟨hy', h⟩)))), fun y hy' h => Rat.not_lt.2 (linI_nonneg.2 (hall _ (mem_sharA.2 (.inr (.inl ⟨hy', h⟩))))), fun i j hi hj hc r s e => ?_⟩
    rw [e]
    have hc1 : crossesB (crossP (gp p i) (nx p i) (gp q j)) (crossP (gp p i) (nx p i) (nx q j)) = true := by
      unfold crossIJ at hc; exact (Bool.and_eq_true _ _ ▸ hc).1
    refine Rat.not_lt.2 (frame_lin hc1 ?_ fun y hy' => hall _ (mem_sharA.2 (.inr (.inr (mem_crosA.2 ⟨i, j, hi, hj, hc, hy'⟩)))))
    rw [← sideQ_at, ← sideQ_at, ← segQ_at, ← e, segQ_at, sideQ_l, sideQ_r]; grind
  refine meet_neg hp hq E hx hy ?_
  rw [linI_at]
  have : ((aff α β γ x : Int) : Rat) < ((0 : Int) : Rat) := by exact_mod_cast hl
  exact_mod_cast this
theorem cross_frame {p q : List Pt} {i j : Nat} (hc : crossIJ p q i j = true) : frameP (gp q j) (nx q j) (crossP (gp p i) (nx p i) (gp q j)) (crossP (gp p i) (nx p i) (nx q j)) = frameP (gp p i) (nx p i) (crossP (gp q j) (nx q j) (gp p i)) (crossP (gp q j) (nx q j) (nx p i)) := by
  unfold crossIJ at hc
  rw [Bool.and_eq_true] at hc
  exact frame_same hc.1 hc.2
theorem crosA_box {p q : List Pt} {m1 M1 m2 M2 : Int} (hb : ∀ x ∈ q, m1 ≤ x.1 ∧ x.1 ≤ M1 ∧ m2 ≤ x.2 ∧ x.2 ≤ M2) : ∀ y ∈ crosA p q, m1 ≤ y.1 ∧ y.1 ≤ M1 ∧ m2 ≤ y.2 ∧ y.2 ≤ M2 := by
  intro y hy
  obtain ⟨i, j, hi, hj, hc, hy⟩ := mem_crosA.1 hy
  unfold crossIJ at hc
  rw [Bool.and_eq_true] at hc
  exact frame_box hc.1 hy (hb _ (gp_mem hj)) (hb _ (nx_mem hj))
theorem crosA_swap {p q : List Pt} {y : Pt} : y ∈ crosA p q ↔ y ∈ crosA q p := by
  have one : ∀ {p q : List Pt}, y ∈ crosA p q → y ∈ crosA q p := fun {p q} h => by
    obtain ⟨i, j, hi, hj, hc, hy⟩ := mem_crosA.1 h
    refine mem_crosA.2 ⟨j, i, hj, hi, by rw [crossIJ_comm]; exact hc, ?_⟩
    rw [cross_frame hc] at hy; exact hy
  exact ⟨one, one⟩
theorem has_box {p : List Pt} (hp : validB p = true) {m1 M1 m2 M2 : Int} (hb : ∀ x ∈ p, m1 ≤ x.1 ∧ x.1 ≤ M1 ∧ m2 ≤ x.2 ∧ x.2 ≤ M2) {y : Pt} (hy : hasB p y = true) : m1 ≤ y.1 ∧ y.1 ≤ M1 ∧ m2 ≤ y.2 ∧ y.2 ≤ M2 := by
  have k := fun α β γ => at_corners hp hy α β γ
  have c := fun i (hi : i < p.length) => hb _ (gp_mem hi)
  have k1 := k 1 0 (-m1) (fun i hi => by have := c i hi; unfold aff; omega)
  have k2 := k (-1) 0 M1 (fun i hi => by have := c i hi; unfold aff; omega)
  have k3 := k 0 1 (-m2) (fun i hi => by have := c i hi; unfold aff; omega)
  have k4 := k 0 (-1) M2 (fun i hi => by have := c i hi; unfold aff; omega)
  unfold aff at *
  omega
/-- What they share is within the rectangles of both. -/
theorem shar_box {p q : List Pt} (hp : validB p = true) {m1 M1 m2 M2 : Int} (hb : ∀ x ∈ p, m1 ≤ x.1 ∧ x.1 ≤ M1 ∧ m2 ≤ x.2 ∧ x.2 ≤ M2) : ∀ y, (y ∈ sharA p q ∨ y ∈ sharA q p) → m1 ≤ y.1 ∧ y.1 ≤ M1 ∧ m2 ≤ y.2 ∧ y.2 ≤ M2 := by
  intro y hy
  have : (y ∈ p ∧ hasB q y = true) ∨ (y ∈ q ∧ hasB p y = true) ∨ y ∈ crosA q p := by
    rcases hy with hy | hy
    · rcases mem_sharA.1 hy with h | h | h
      · exact .inl h
      · exact .inr (.inl h)
      · exact .inr (.inr (crosA_swap.1 h))
    · rcases mem_sharA.1 hy with h | h | h
      · exact .inr (.inl h)
      · exact .inl h
      · exact .inr (.inr h)
  rcases this with h | h | h
  · exact hb y h.1
  · exact has_box hp hb h.2
  · exact crosA_box hb y h
theorem shar_place {p q : List Pt} (hp : validB p = true) : ∀ y ∈ sharA p q, placeB y = true := fun y hy =>
  place_box.2 (shar_box hp (fun x hx => place_box.1 (valid_mem hp x hx)) y (.inl hy))
theorem sum_swap (F : Nat → Nat → Nat) (m : Nat) : ∀ n, ((List.range n).map fun i => ((List.range m).map (F i)).sum).sum = ((List.range m).map fun j => ((List.range n).map fun i => F i j).sum).sum
  | 0 => by
    have : ∀ l : List Nat, (l.map fun _ => (0 : Nat)).sum = 0 := fun l => by induction l <;> simp_all
    simp [this]
  | n + 1 => by
    have add : ∀ (l : List Nat) (f g : Nat → Nat), (l.map fun j => f j + g j).sum = (l.map f).sum + (l.map g).sum := fun l f g => by
      induction l with
      | nil => rfl
      | cons a l ih => simp only [List.map_cons, List.sum_cons, ih]; omega
    have e : (fun j => ((List.range (n + 1)).map fun i => F i j).sum) = fun j => ((List.range n).map fun i => F i j).sum + F n j := by
      funext j; rw [List.range_succ, List.map_append, List.sum_append]; simp
    rw [e, add, List.range_succ, List.map_append, List.sum_append, sum_swap F m n]
    simp
theorem crosA_len (p q : List Pt) : (crosA p q).length = ((List.range p.length).map fun i => ((List.range q.length).map fun j => if crossIJ p q i j = true then 4 else 0).sum).sum := by
  unfold crosA crosX
  rw [List.length_flatMap]
  congr 1
  apply List.map_congr_left
  intro i _
  unfold rowX
  rw [List.length_flatMap]
  congr 1
  apply List.map_congr_left
  intro j _
  exact cellX_len p q i j
theorem shar_same (p q : List Pt) : arC (sharA p q) = arC (sharA q p) := by
  refine arC_congr (fun x => ?_) ?_
  · rw [mem_sharA, mem_sharA, crosA_swap]
    constructor
    · rintro (h | h | h)
      · exact .inr (.inl h)
      · exact .inl h
      · exact .inr (.inr h)
    · rintro (h | h | h)
      · exact .inr (.inl h)
      · exact .inl h
      · exact .inr (.inr h)
  · have : (crosA p q).length = (crosA q p).length := by
      rw [crosA_len, crosA_len, sum_swap]
      congr 1
      apply List.map_congr_left
      intro j _
      congr 1
      apply List.map_congr_left
      intro i _
      rw [crossIJ_comm]
    unfold sharA
    simp only [List.length_append]
    omega
/-- A polygon within another one: no sides cross, and it is what they share. -/
theorem within_cross {p q : List Pt} (hq : validB q = true) (hin : ∀ y ∈ p, hasB q y = true) : crosA p q = [] := by
  refine List.eq_nil_iff_forall_not_mem.2 fun y hy => ?_
  obtain ⟨i, j, hi, hj, hc, _⟩ := mem_crosA.1 hy
  unfold crossIJ at hc
  rw [Bool.and_eq_true] at hc
  have hc := crosses_iff.1 hc.2
  have ha := hin _ (gp_mem hi)
  have hb := hin _ (nx_mem hi)
  have side : ∀ {y : Pt}, hasB q y = true → 0 ≤ crossP (gp q j) (nx q j) y := fun {y} h => by
    have hl := len_one hq
    by_cases h1 : q.length = 1
    · have : j = 0 := by omega
      subst this
      have : nx q 0 = gp q 0 := by unfold nx; rw [h1]
      rw [this]
      unfold crossP cross; simp
    · have hcn := (con_has hq (by omega)).1 h
      unfold conQ at hcn
      by_cases h2 : q.length = 2
      · rw [if_pos h2] at hcn
        have c1 := sideQ_nonneg.1 (hcn (sideQ (gp q 0) (gp q 1)) (by simp [conS]))
        have c2 := sideQ_nonneg.1 (hcn (sideQ (gp q 1) (gp q 0)) (by simp [conS]))
        have : j = 0 ∨ j = 1 := by omega
        rcases this with rfl | rfl
        · unfold nx; rw [h2]; exact c1
        · unfold nx; rw [h2]; exact c2
      · rw [if_neg h2] at hcn
        exact sideQ_nonneg.1 (hcn _ (conP_mem hj))
  have := side ha
  have := side hb
  omega
theorem within_shar {p q : List Pt} (hp : validB p = true) (hq : validB q = true) (hin : ∀ y ∈ p, hasB q y = true) : arC (sharA p q) = p := by
  have hlp := len_one hp
  have hlq := len_one hq
  have hmem : ∀ y ∈ sharA p q, hasB p y = true := fun y hy => by
    rcases mem_sharA.1 hy with h | h | h
    · exact (hl_of_valid hp).has h.1
    · exact h.2
    · rw [within_cross hq hin] at h; cases h
  have hh : Hl (sharA p q) p := hl_of_has hp hmem fun y hy => mem_sharA.2 (.inl ⟨hy, hin y hy⟩)
  have hne : sharA p q ≠ [] := fun e => by
    have := mem_sharA.2 (.inl ⟨gp_mem (show 0 < p.length by omega), hin _ (gp_mem (show 0 < p.length by omega))⟩)
    rw [e] at this; cases this
  have hlen : (sharA p q).length ≤ 4000 := by
    unfold sharA cornA
    rw [within_cross hq hin]
    have h1 := List.length_filter_le (hasB q) p
    have h2 := List.length_filter_le (hasB p) q
    simp only [List.length_append, List.length_nil]
    omega
  unfold arC
  rw [if_neg hne, around_eq hh, if_pos ⟨hlen, hlp.2⟩]
end Go.Proofs.Ytlihojecopfgfaa

/- Tides, plainly: editions, what holds in a block and a slot, the least bounds of several. -/
namespace Go.Proofs.Ytlihojecopfgfaa
open Go
structure FlowS where
  x : Int
  y : Int
  s : Int
  ul : Int
  uh : Int
  vl : Int
  vh : Int
  hl : Int
  hh : Int
structure TideS where
  ver : Int
  fr : Int
  sl : Int
  rest : FlowS
  fl : List FlowS
def zeroF : FlowS := ⟨0, 0, 0, 0, 0, 0, 0, 0, 0⟩
def plainF (f : FlowS) : FlowS := ⟨0, 0, 0, f.ul, f.uh, f.vl, f.vh, f.hl, f.hh⟩
def spB (m lo hi : Int) : Bool := decide (lo ≤ hi ∧ -m ≤ lo ∧ hi ≤ m)
def bndB (f : FlowS) : Bool := spB 5000 f.ul f.uh && spB 5000 f.vl f.vh && spB 2000 f.hl f.hh
def cmpF (a b : FlowS) : Int := if cmpI a.s b.s ≠ 0 then cmpI a.s b.s else if cmpI a.y b.y ≠ 0 then cmpI a.y b.y else cmpI a.x b.x
def gf (l : List FlowS) (i : Nat) : FlowS := l.getD i zeroF
def flowB (t : TideS) (i : Nat) : Bool :=
  decide (-50 ≤ (gf t.fl i).x ∧ (gf t.fl i).x ≤ 50 ∧ -50 ≤ (gf t.fl i).y ∧ (gf t.fl i).y ≤ 50 ∧ 0 ≤ (gf t.fl i).s ∧ (gf t.fl i).s < t.sl) && bndB (gf t.fl i) && (i == 0 || decide (cmpF (gf t.fl (i - 1)) (gf t.fl i) < 0))
def tideB (t : TideS) : Bool :=
  decide (1 ≤ t.ver ∧ t.ver ≤ 1000000 ∧ 0 ≤ t.fr ∧ t.fr ≤ 1000000000 ∧ 0 ≤ t.sl ∧ t.sl ≤ 1000 ∧ t.fl.length ≤ 4000 ∧ t.rest.x = 0 ∧ t.rest.y = 0 ∧ t.rest.s = 0) && bndB t.rest && (List.range t.fl.length).all (flowB t)
def isKey (x y s : Int) (f : FlowS) : Bool := decide (f.x = x ∧ f.y = y ∧ f.s = s)
/-- What holds in a block and a slot. -/
def ofB (t : TideS) (x y s : Int) : FlowS := plainF ((t.fl.find? (isKey x y s)).getD t.rest)
def joinF (a b : FlowS) : FlowS := ⟨0, 0, 0, min a.ul b.ul, max a.uh b.uh, min a.vl b.vl, max a.vh b.vh, min a.hl b.hl, max a.hh b.hh⟩

/-! ### Order of flows -/
theorem cmpF_lt (a b : FlowS) : cmpF a b < 0 ↔ a.s < b.s ∨ a.s = b.s ∧ (a.y < b.y ∨ a.y = b.y ∧ a.x < b.x) := by
  have h1 := cmpI_sgn a.s b.s
  have h2 := cmpI_sgn a.y b.y
  have h3 := cmpI_sgn a.x b.x
  unfold cmpF
  split
  · rw [h1.1]
    have : a.s ≠ b.s := fun h => by rename_i e; exact e (h1.2.2 h)
    omega
  · have e1 : a.s = b.s := h1.2.1 (by rename_i e; omega)
    split
    · rw [h2.1]
      have : a.y ≠ b.y := fun h => by rename_i e; exact e (h2.2.2 h)
      omega
    · have e2 : a.y = b.y := h2.2.1 (by rename_i e; omega)
      rw [h3.1]; omega
theorem cmpF_eq (a b : FlowS) : cmpF a b = 0 ↔ a.x = b.x ∧ a.y = b.y ∧ a.s = b.s := by
  have h1 := cmpI_sgn a.s b.s
  have h2 := cmpI_sgn a.y b.y
  have h3 := cmpI_sgn a.x b.x
  unfold cmpF
  split
  · rename_i e
    exact ⟨fun h => absurd h e, fun h => absurd (h1.2.2 h.2.2) e⟩
  · have e1 : a.s = b.s := h1.2.1 (by rename_i e; omega)
    split
    · rename_i e
      exact ⟨fun h => absurd h e, fun h => absurd (h2.2.2 h.2.1) e⟩
    · have e2 : a.y = b.y := h2.2.1 (by rename_i e; omega)
      rw [h3.2]; omega

/-! ### The least bounds of several -/
structure IsJ (S : FlowS → Prop) (f : FlowS) : Prop where
  x : f.x = 0
  y : f.y = 0
  s : f.s = 0
  ul : (∀ g, S g → f.ul ≤ g.ul) ∧ ∃ g, S g ∧ g.ul = f.ul
  uh : (∀ g, S g → g.uh ≤ f.uh) ∧ ∃ g, S g ∧ g.uh = f.uh
  vl : (∀ g, S g → f.vl ≤ g.vl) ∧ ∃ g, S g ∧ g.vl = f.vl
  vh : (∀ g, S g → g.vh ≤ f.vh) ∧ ∃ g, S g ∧ g.vh = f.vh
  hl : (∀ g, S g → f.hl ≤ g.hl) ∧ ∃ g, S g ∧ g.hl = f.hl
  hh : (∀ g, S g → g.hh ≤ f.hh) ∧ ∃ g, S g ∧ g.hh = f.hh
theorem lo_unique {α : Type} {S T : α → Prop} {c : α → Int} {a b : Int} (hT : ∀ g, T g → S g) (h : (∀ g, S g → a ≤ c g) ∧ ∃ g, S g ∧ c g = a) (k : (∀ g, T g → b ≤ c g) ∧ ∃ g, T g ∧ c g = b) : a ≤ b := by
  obtain ⟨g, hg, e⟩ := k.2
  have := h.1 g (hT g hg)
  omega
theorem hi_unique {α : Type} {S T : α → Prop} {c : α → Int} {a b : Int} (hT : ∀ g, T g → S g) (h : (∀ g, S g → c g ≤ a) ∧ ∃ g, S g ∧ c g = a) (k : (∀ g, T g → c g ≤ b) ∧ ∃ g, T g ∧ c g = b) : b ≤ a := by
  obtain ⟨g, hg, e⟩ := k.2
  have := h.1 g (hT g hg)
  omega
/-- Bounds within others. -/
def inF (a b : FlowS) : Prop := b.ul ≤ a.ul ∧ a.uh ≤ b.uh ∧ b.vl ≤ a.vl ∧ a.vh ≤ b.vh ∧ b.hl ≤ a.hl ∧ a.hh ≤ b.hh
theorem IsJ.le {S T : FlowS → Prop} {f g : FlowS} (h : IsJ S f) (k : IsJ T g) (hT : ∀ x, T x → S x) : inF g f :=
  ⟨lo_unique hT h.ul k.ul, hi_unique hT h.uh k.uh, lo_unique hT h.vl k.vl, hi_unique hT h.vh k.vh, lo_unique hT h.hl k.hl, hi_unique hT h.hh k.hh⟩
theorem IsJ.unique {S T : FlowS → Prop} {f g : FlowS} (h : IsJ S f) (k : IsJ T g) (hT : ∀ x, T x ↔ S x) : f = g := by
  have h1 := h.le k fun x hx => (hT x).1 hx
  have h2 := k.le h fun x hx => (hT x).2 hx
  unfold inF at h1 h2
  have a1 := h.x; have a2 := h.y; have a3 := h.s; have b1 := k.x; have b2 := k.y; have b3 := k.s
  cases f; cases g
  simp only at *
  simp only [FlowS.mk.injEq]
  omega
theorem IsJ.mem {S : FlowS → Prop} {f g : FlowS} (h : IsJ S f) (hg : S g) : inF g f := ⟨h.ul.1 g hg, h.uh.1 g hg, h.vl.1 g hg, h.vh.1 g hg, h.hl.1 g hg, h.hh.1 g hg⟩
theorem IsJ.congr {S T : FlowS → Prop} {f : FlowS} (h : IsJ S f) (hT : ∀ x, T x ↔ S x) : IsJ T f := by
  have : T = S := funext fun x => propext (hT x)
  rw [this]; exact h
theorem IsJ.one {f : FlowS} (hx : f.x = 0) (hy : f.y = 0) (hs : f.s = 0) : IsJ (· = f) f :=
  ⟨hx, hy, hs, ⟨fun _ h => by rw [h]; exact Int.le_refl _, _, rfl, rfl⟩, ⟨fun _ h => by rw [h]; exact Int.le_refl _, _, rfl, rfl⟩, ⟨fun _ h => by rw [h]; exact Int.le_refl _, _, rfl, rfl⟩, ⟨fun _ h => by rw [h]; exact Int.le_refl _, _, rfl, rfl⟩, ⟨fun _ h => by rw [h]; exact Int.le_refl _, _, rfl, rfl⟩, ⟨fun _ h => by rw [h]; exact Int.le_refl _, _, rfl, rfl⟩⟩
theorem lo_join {α : Type} {S T : α → Prop} {c : α → Int} {a b : Int} (h : (∀ g, S g → a ≤ c g) ∧ ∃ g, S g ∧ c g = a) (k : (∀ g, T g → b ≤ c g) ∧ ∃ g, T g ∧ c g = b) : (∀ g, S g ∨ T g → min a b ≤ c g) ∧ ∃ g, (S g ∨ T g) ∧ c g = min a b := by
  refine ⟨fun g hg => ?_, ?_⟩
  · rcases hg with hg | hg
    · have := h.1 g hg; omega
    · have := k.1 g hg; omega
  · by_cases e : a ≤ b
    · obtain ⟨g, hg, h1⟩ := h.2
      exact ⟨g, .inl hg, by omega⟩
    · obtain ⟨g, hg, h1⟩ := k.2
      exact ⟨g, .inr hg, by omega⟩
theorem hi_join {α : Type} {S T : α → Prop} {c : α → Int} {a b : Int} (h : (∀ g, S g → c g ≤ a) ∧ ∃ g, S g ∧ c g = a) (k : (∀ g, T g → c g ≤ b) ∧ ∃ g, T g ∧ c g = b) : (∀ g, S g ∨ T g → c g ≤ max a b) ∧ ∃ g, (S g ∨ T g) ∧ c g = max a b := by
  refine ⟨fun g hg => ?_, ?_⟩
  · rcases hg with hg | hg
    · have := h.1 g hg; omega
    · have := k.1 g hg; omega
  · by_cases e : b ≤ a
    · obtain ⟨g, hg, h1⟩ := h.2
      exact ⟨g, .inl hg, by omega⟩
    · obtain ⟨g, hg, h1⟩ := k.2
      exact ⟨g, .inr hg, by omega⟩
theorem IsJ.join {S T : FlowS → Prop} {f g : FlowS} (h : IsJ S f) (k : IsJ T g) : IsJ (fun x => S x ∨ T x) (joinF f g) :=
  ⟨rfl, rfl, rfl, lo_join h.ul k.ul, hi_join h.uh k.uh, lo_join h.vl k.vl, hi_join h.vh k.vh, lo_join h.hl k.hl, hi_join h.hh k.hh⟩
theorem IsJ.bnd {S : FlowS → Prop} {f : FlowS} (h : IsJ S f) (hS : ∀ g, S g → bndB g = true) : bndB f = true := by
  obtain ⟨g1, k1, e1⟩ := h.ul.2
  obtain ⟨g2, k2, e2⟩ := h.uh.2
  obtain ⟨g3, k3, e3⟩ := h.vl.2
  obtain ⟨g4, k4, e4⟩ := h.vh.2
  obtain ⟨g5, k5, e5⟩ := h.hl.2
  obtain ⟨g6, k6, e6⟩ := h.hh.2
  have b1 := hS _ k1; have b2 := hS _ k2; have b3 := hS _ k3; have b4 := hS _ k4; have b5 := hS _ k5; have b6 := hS _ k6
  have c1 := h.uh.1 _ k1; have c3 := h.vh.1 _ k3; have c5 := h.hh.1 _ k5
  simp only [bndB, spB, Bool.and_eq_true, decide_eq_true_eq] at b1 b2 b3 b4 b5 b6 ⊢
  omega

/-! ### What holds -/
theorem of_plain (t : TideS) (x y s : Int) : (ofB t x y s).x = 0 ∧ (ofB t x y s).y = 0 ∧ (ofB t x y s).s = 0 := ⟨rfl, rfl, rfl⟩
theorem all_range {n : Nat} {p : Nat → Bool} : (List.range n).all p = true ↔ ∀ i, i < n → p i = true := by simp [List.all_eq_true]
theorem gf_mem {l : List FlowS} {f : FlowS} (h : f ∈ l) : ∃ i, i < l.length ∧ gf l i = f := by
  obtain ⟨i, hi, e⟩ := List.mem_iff_getElem.1 h
  exact ⟨i, hi, by simp [gf, hi, e]⟩
theorem gf_in {l : List FlowS} {i : Nat} (h : i < l.length) : gf l i ∈ l := by
  have : gf l i = l[i] := by simp [gf, h]
  rw [this]; exact List.getElem_mem h
theorem tide_get {t : TideS} (h : tideB t = true) : (1 ≤ t.ver ∧ t.ver ≤ 1000000 ∧ 0 ≤ t.fr ∧ t.fr ≤ 1000000000 ∧ 0 ≤ t.sl ∧ t.sl ≤ 1000 ∧ t.fl.length ≤ 4000 ∧ t.rest.x = 0 ∧ t.rest.y = 0 ∧ t.rest.s = 0) ∧ bndB t.rest = true ∧ ∀ i, i < t.fl.length → flowB t i = true := by
  simp only [tideB, Bool.and_eq_true, decide_eq_true_eq, all_range] at h
  exact ⟨h.1.1, h.1.2, h.2⟩
theorem tide_flow {t : TideS} (h : tideB t = true) {f : FlowS} (hf : f ∈ t.fl) : bndB f = true ∧ 0 ≤ f.s ∧ f.s < t.sl := by
  obtain ⟨i, hi, rfl⟩ := gf_mem hf
  have := (tide_get h).2.2 i hi
  simp only [flowB, Bool.and_eq_true, decide_eq_true_eq] at this
  exact ⟨this.1.2, this.1.1.2.2.2.2.1, this.1.1.2.2.2.2.2⟩
theorem bnd_plain (f : FlowS) : bndB (plainF f) = bndB f := rfl
theorem of_bnd {t : TideS} (h : tideB t = true) (x y s : Int) : bndB (ofB t x y s) = true := by
  unfold ofB
  rw [bnd_plain]
  cases hf : t.fl.find? (isKey x y s) with
  | none => exact (tide_get h).2.1
  | some f => exact (tide_flow h (List.mem_of_find?_eq_some hf)).1
/-- The flows are in order. -/
theorem tide_lt {t : TideS} (h : tideB t = true) : ∀ j i, i < j → j < t.fl.length → cmpF (gf t.fl i) (gf t.fl j) < 0 := by
  intro j
  induction j with
  | zero => intro i hi; omega
  | succ j ih =>
    intro i hi hj
    have h1 := (tide_get h).2.2 (j + 1) hj
    simp only [flowB, Bool.and_eq_true, Bool.or_eq_true, decide_eq_true_eq, beq_iff_eq] at h1
    have hs : cmpF (gf t.fl j) (gf t.fl (j + 1)) < 0 := by
      rcases h1.2 with h | h
      · omega
      · exact h
    by_cases e : i = j
    · rw [e]; exact hs
    · have := ih i (by omega) (by omega)
      rw [cmpF_lt] at this hs ⊢
      omega
theorem find_at {t : TideS} (h : tideB t = true) {i : Nat} (hi : i < t.fl.length) {x y s : Int} (hk : isKey x y s (gf t.fl i) = true) : t.fl.find? (isKey x y s) = some (gf t.fl i) := by
  cases hf : t.fl.find? (isKey x y s) with
  | none => have := List.find?_eq_none.1 hf _ (gf_in hi); exact absurd hk this
  | some f =>
    obtain ⟨j, hj, e⟩ := gf_mem (List.mem_of_find?_eq_some hf)
    have h2 := List.find?_some hf
    simp only [isKey, decide_eq_true_eq] at hk h2
    rcases Nat.lt_trichotomy i j with c | c | c
    · have := (cmpF_lt _ _).1 (tide_lt h j i c hj); rw [e] at this; omega
    · subst c; rw [e]
    · have := (cmpF_lt _ _).1 (tide_lt h i j c hi); rw [e] at this; omega
/-- Outside of the slots of an edition its rest holds. -/
theorem of_out {t : TideS} (h : tideB t = true) {x y s : Int} (hs : s < 0 ∨ t.sl ≤ s) : ofB t x y s = plainF t.rest := by
  unfold ofB
  have : t.fl.find? (isKey x y s) = none := List.find?_eq_none.2 fun f hf => by
    have := (tide_flow h hf).2
    simp only [isKey, decide_eq_true_eq]; omega
  rw [this]; rfl
def clipS (t : TideS) (s : Int) : Int := max (-1) (min s t.sl)
theorem of_clip {t : TideS} (h : tideB t = true) (x y s : Int) : ofB t x y (clipS t s) = ofB t x y s := by
  have h1 := (tide_get h).1
  unfold clipS
  by_cases c : s < 0
  · rw [of_out h (.inl c), of_out h (.inl (by omega))]
  · by_cases d : t.sl ≤ s
    · rw [of_out h (.inr d), of_out h (.inr (by omega))]
    · congr 1; omega
/-- What holds in a rectangle of blocks and some slots. -/
def inB (t : TideS) (x1 x2 y1 y2 s1 s2 : Int) (g : FlowS) : Prop := ∃ x y s, x1 ≤ x ∧ x ≤ x2 ∧ y1 ≤ y ∧ y ≤ y2 ∧ s1 ≤ s ∧ s ≤ s2 ∧ g = ofB t x y s
theorem inB_clip {t : TideS} (h : tideB t = true) {x1 x2 y1 y2 s1 s2 : Int} (hs : s1 ≤ s2) (g : FlowS) : inB t x1 x2 y1 y2 (clipS t s1) (clipS t s2) g ↔ inB t x1 x2 y1 y2 s1 s2 g := by
  have h1 := (tide_get h).1
  constructor
  · rintro ⟨x, y, s, a1, a2, a3, a4, a5, a6, rfl⟩
    unfold clipS at a5 a6
    by_cases c : s < s1
    · refine ⟨x, y, s1, a1, a2, a3, a4, Int.le_refl _, hs, ?_⟩
      rw [of_out h (by omega), of_out h (by omega)]
    · by_cases d : s2 < s
      · refine ⟨x, y, s2, a1, a2, a3, a4, hs, Int.le_refl _, ?_⟩
        rw [of_out h (by omega), of_out h (by omega)]
      · exact ⟨x, y, s, a1, a2, a3, a4, by omega, by omega, rfl⟩
  · rintro ⟨x, y, s, a1, a2, a3, a4, a5, a6, rfl⟩
    exact ⟨x, y, clipS t s, a1, a2, a3, a4, by unfold clipS; omega, by unfold clipS; omega, (of_clip h x y s).symm⟩
end Go.Proofs.Ytlihojecopfgfaa

/- Contracts of exact, span, and of the leaves of tide. -/
namespace Go.Proofs.Ytlihojecopfgfaa
open Go Go.V Go.RowKit
theorem div_spec {a b : Int} (hb : 0 < b) : (a.tmod b < 0 → a.tdiv b - 1 = a / b ∧ a.tmod b + b = a % b) ∧ (0 ≤ a.tmod b → a.tdiv b = a / b ∧ a.tmod b = a % b) := by
  have h1 := Int.tmod_add_mul_tdiv a b
  have h2 := Int.tmod_lt_of_pos a hb
  have h3 : -b < a.tmod b := by
    by_cases ha : 0 ≤ a
    · have := Int.tmod_nonneg b ha; omega
    · have h := Int.tmod_lt_of_pos (-a) hb
      rw [Int.neg_tmod] at h; omega
  refine ⟨fun h => ?_, fun h => ?_⟩
  · have := (Int.ediv_emod_unique hb (a := a) (r := a.tmod b + b) (q := a.tdiv b - 1)).2 ⟨by rw [Int.mul_sub]; omega, by omega, by omega⟩
    exact ⟨this.1.symm, this.2.symm⟩
  · have := (Int.ediv_emod_unique hb (a := a) (r := a.tmod b) (q := a.tdiv b)).2 ⟨by omega, by omega, by omega⟩
    exact ⟨this.1.symm, this.2.symm⟩
theorem tdiv_bd {a b : Int} (hb : 0 < b) (h1 : -1000000000000 ≤ a) (h2 : a ≤ 1000000000000) : -1000000000001 ≤ a.tdiv b ∧ a.tdiv b ≤ 1000000000000 := by
  have hq : -1000000000000 ≤ a / b ∧ a / b ≤ 1000000000000 := by
    constructor
    · have := (Int.le_ediv_iff_mul_le hb (a := -1000000000000) (b := a)).2 (by
        have : (1000000000000 : Int) * 1 ≤ 1000000000000 * b := Int.mul_le_mul_of_nonneg_left (by omega) (by omega)
        omega)
      exact this
    · have := Int.ediv_le_of_le_mul hb (a := a) (b := 1000000000000) (by
        have : (1000000000000 : Int) * 1 ≤ 1000000000000 * b := Int.mul_le_mul_of_nonneg_left (by omega) (by omega)
        omega)
      exact this
  rcases Int.lt_or_le (a.tmod b) 0 with h | h
  · have h := (div_spec hb).1 h
    have h1 := Int.tmod_add_mul_tdiv a b
    have h3 : 0 ≤ a → 0 ≤ a.tmod b := Int.tmod_nonneg b
    by_cases c : a.tdiv b ≤ 1000000000000
    · omega
    · have : (0 : Int) * b ≤ a.tdiv b * b := Int.mul_le_mul_of_nonneg_right (by omega) (by omega)
      have e : a.tdiv b * b = b * a.tdiv b := Int.mul_comm _ _
      have h4 := Int.tmod_lt_of_pos (-a) hb
      rw [Int.neg_tmod] at h4
      have : (1000000000001 : Int) * b ≤ a.tdiv b * b := Int.mul_le_mul_of_nonneg_right (by omega) (by omega)
      omega
  · have := (div_spec hb).2 h; omega
def flV (f : FlowS) : Value := .agg #[.int .i64 f.x, .int .i64 f.y, .int .i64 f.s, .int .i64 f.ul, .int .i64 f.uh, .int .i64 f.vl, .int .i64 f.vh, .int .i64 f.hl, .int .i64 f.hh]
theorem zeroFl : (Value.agg #[.int .i64 0, .int .i64 0, .int .i64 0, .int .i64 0, .int .i64 0, .int .i64 0, .int .i64 0, .int .i64 0, .int .i64 0]) = flV zeroF := rfl
end Go.Proofs.Ytlihojecopfgfaa

/- Contracts of package cut: half-planes, sides, frames. -/
namespace Go.Proofs.Ytlihojecopfgfaa
open Go Go.V Go.RowKit
theorem turnC_fn (ax ay bx by' cx' cy : Int) (M : Mem) (h1 : isC ax) (h2 : isC ay) (h3 : isC bx) (h4 : isC by') (h5 : isC cx') (h6 : isC cy) :
    FnP Try.prog 57 [pt ax ay, pt bx by', pt cx' cy] M [.int .i64 (cross ax ay bx by' cx' cy)] := by
  unfold isC at *
  have p1 := bd12 (a := bx - ax) (b := cy - ay) (by omega) (by omega) (by omega) (by omega)
  have p2 := bd12 (a := by' - ay) (b := cx' - ax) (by omega) (by omega) (by omega) (by omega)
  refine Fn.of_vc cxOK Try.func57 rfl rfl rfl ?_
  repeat (first | refine VIf.tt ?_ | refine VIf.ff ?_)
  refine VArith.ok (by omega) (by omega) ?_
  repeat (first | refine VIf.tt ?_ | refine VIf.ff ?_)
  refine VArith.ok (by omega) (by omega) ?_
  repeat (first | refine VIf.tt ?_ | refine VIf.ff ?_)
  refine VArith.ok (by omega) (by omega) ?_
  repeat (first | refine VIf.tt ?_ | refine VIf.ff ?_)
  refine VArith.ok (by omega) (by omega) ?_
  repeat (first | refine VIf.tt ?_ | refine VIf.ff ?_)
  refine VArith.ok (by omega) (by omega) ?_
  repeat (first | refine VIf.tt ?_ | refine VIf.ff ?_)
  refine VArith.ok (by omega) (by omega) ?_
  repeat (first | refine VIf.tt ?_ | refine VIf.ff ?_)
  refine VArith.ok (by omega) (by omega) ?_
  repeat (first | refine VIf.tt ?_ | refine VIf.ff ?_)
  exact VFact.mk ⟨rfl, rfl⟩ trivial
theorem sidesC_fn (ad : Option Addr) (n c : Nat) (M : Mem) : V.Fn Try.prog 33 [.slice ad n c] M fun rs M' => ∃ B, rs = [.func (.func 51) #[] #[.pointer (some ⟨B, 0, none⟩)]] ∧ M' B = some (.cells #[.slice ad n c] 22 (0, 0)) := by
  refine Fn.of_vc cxOK Try.func33 rfl rfl rfl ?_
  repeat (first | refine VIf.tt ?_ | refine VIf.ff ?_)
  refine VFzB.mk fun x B M' hle hB => ?_
  repeat (first | refine VIf.tt ?_ | refine VIf.ff ?_)
  exact VFact.mk ⟨B, rfl, hB⟩ trivial

theorem sidesC_iter (M : Mem) (B : Nat) (v : Value) (ps : List Pt) (hB : M B = some (.cells #[v] 22 (0, 0))) (hv : Pts M v ps) :
    Iter Try.prog 51 #[.pointer (some ⟨B, 0, none⟩)] M (sidesL ps) := by
  obtain ⟨ad, c, rfl, hc, hm, hl, h1, hcell⟩ := hv
  refine Iter.of_vc cxOK Try.func51 rfl rfl rfl rfl fun l => ?_
  repeat (first | refine VIf.tt ?_ | refine VIf.ff ?_)
  refine VRead.mk _ (box1 hB) ?_
  repeat (first | refine VIf.tt ?_ | refine VIf.ff ?_)
  refine VCode.loopG cxOK (fun m => m = fun _ => none) rfl Nat
    (fun i => ⟨[(0, .v (.func (.yield l) #[] #[])), (1, .v (.pointer (some ⟨B, 0, none⟩))), (5, .v (.slice ad ps.length c)), (6, .v (.int .i64 ps.length)), (7, .v (.int .i64 i))], [], 0, M, 25, ⟨fun _ => none, some (l, (sidesL ps).drop i), fun _ => none⟩⟩)
    (fun i => i ≤ ps.length) (fun i => ps.length - i) 0 (Nat.zero_le _) ?_ ?_
  · exact Wk.mk' id ⟨⟨rfl, rfl⟩, ⟨rfl, rfl⟩, ⟨rfl, rfl⟩, ⟨rfl, rfl⟩, ⟨rfl, rfl⟩, trivial⟩ trivial trivial rfl rfl rfl
  rintro i hi m rfl
  repeat (first | refine VIf.tt ?_ | refine VIf.ff ?_)
  refine VIf.mk (fun hlt => ?_) (fun hge => ?_)
  · have hlt : i < ps.length := by simpa using hlt
    obtain ⟨ad', rfl, hrd⟩ := hcell (by omega)
    have hpt : ∀ k, k < ps.length → ∀ j v, [Value.int .i64 (ps.getD k (0,0)).1, .int .i64 (ps.getD k (0,0)).2][j]? = some v → M.cell ((ad'.add (k * 2)).add j) = some v := by
      intro k hk j v hj
      obtain ⟨g1, g2⟩ := cellsP_get ps k hk
      rw [show (ad'.add (k * 2)).add j = ad'.add (2 * k + j) by rw [Addr.add_add]; congr 1; omega]
      refine hrd _ _ ?_
      match j, hj with
      | 0, hj => rw [← hj]; exact g1
      | 1, hj => rw [← hj]; exact g2
      | j + 2, hj => simp at hj
    repeat (first | refine VIf.tt ?_ | refine VIf.ff ?_)
    refine VIdx.mk ad' i rfl rfl hlt ?_
    repeat (first | refine VIf.tt ?_ | refine VIf.ff ?_)
    refine VReads.mk [.int .i64 (ps.getD i (0,0)).1, .int .i64 (ps.getD i (0,0)).2] rfl (hpt i hlt) ?_
    repeat (first | refine VIf.tt ?_ | refine VIf.ff ?_)
    refine VDraw.go (by kernel_rfl) ?_
    have hmod : (i + 1) % ps.length < ps.length := Nat.mod_lt _ (by omega)
    repeat (first | refine VIf.tt ?_ | refine VIf.ff ?_)
    refine VRead.mk _ (box1 hB) ?_
    conv => whnf
    repeat (first | refine VIf.tt ?_ | refine VIf.ff ?_)
    refine VArith.ok (by omega) (by unfold maxLen at hm; omega) ?_
    repeat (first | refine VIf.tt ?_ | refine VIf.ff ?_)
    refine VRead.mk _ (box1 hB) ?_
    conv => whnf
    repeat (first | refine VIf.tt ?_ | refine VIf.ff ?_)
    refine VDiv.mk (by omega) ?_
    repeat (first | refine VIf.tt ?_ | refine VIf.ff ?_)
    refine VIdx.mk ad' ((i + 1) % ps.length) rfl ?_ hmod ?_
    · rw [Int.tmod_eq_emod_of_nonneg (by omega)]; simp
    repeat (first | refine VIf.tt ?_ | refine VIf.ff ?_)
    refine VReads.mk [.int .i64 (ps.getD ((i + 1) % ps.length) (0,0)).1, .int .i64 (ps.getD ((i + 1) % ps.length) (0,0)).2] rfl (hpt _ hmod) ?_
    repeat (first | refine VIf.tt ?_ | refine VIf.ff ?_)
    refine VYield.mk ((sidesL ps).drop (i + 1)) ?_ ?_ ?_
    · simp only [Gh.mk.injEq, and_true, true_and, Option.some.injEq, Prod.mk.injEq]
      rw [List.drop_eq_getElem_cons (by simpa [sidesL] using hlt)]
      simp [sidesL, ptv, pt]
    · refine VIf.ff ?_
      repeat (first | refine VIf.tt ?_ | refine VIf.ff ?_)
      refine VArith.ok (by omega) (by unfold maxLen at hm; omega) ?_
      exact ⟨rfl, i + 1, hlt, by omega, Wk.mk' id ⟨⟨rfl, rfl⟩, ⟨rfl, rfl⟩, ⟨rfl, rfl⟩, ⟨rfl, rfl⟩, ⟨rfl, rfl⟩, trivial⟩ trivial trivial rfl rfl rfl⟩
    · refine VIf.tt ?_
      exact VEnd.stop rfl
  · have hge : i = ps.length := by
      have : ¬ ((i : Int) < (ps.length : Int)) := by simpa using hge
      omega
    subst hge
    exact VEnd.all (by simp [sidesL])

def halfB (A B C : Int) : Bool := decide (-1000000 ≤ A ∧ A ≤ 1000000) && decide (-1000000 ≤ B ∧ B ≤ 1000000) && decide (-1000000000000 ≤ C ∧ C ≤ 1000000000000) && !(decide (A = 0) && decide (B = 0))
def hv (A B C : Int) : Value := .agg #[.int .i64 A, .int .i64 B, .int .i64 C]
theorem small_fn (n m : Int) (M : Mem) (hm : 0 ≤ m ∧ m ≤ 1000000000000) : FnP Try.prog 48 [.int .i64 n, .int .i64 m] M [.bool (decide (-m ≤ n ∧ n ≤ m))] := by
  refine Fn.of_vc cxOK Try.func48 rfl rfl rfl ?_
  repeat (first | refine VIf.tt ?_ | refine VIf.ff ?_)
  refine VArith.ok (by first | omega | (simp only; omega)) (by first | omega | (simp only; omega)) ?_
  repeat (first | refine VIf.tt ?_ | refine VIf.ff ?_)
  refine VIf.mk (fun h => ?_) (fun h => ?_)
  · have h := of_decide_eq_true h
    repeat (first | refine VIf.tt ?_ | refine VIf.ff ?_)
    refine VFact.mk ⟨?_, rfl⟩ trivial
    exact congrArg (fun b => [Value.bool b]) (decide_eq_decide.2 ⟨fun h' => ⟨h, h'⟩, fun h' => h'.2⟩)
  · have h := of_decide_eq_false h
    repeat (first | refine VIf.tt ?_ | refine VIf.ff ?_)
    refine VFact.mk ⟨?_, rfl⟩ trivial
    rw [decide_eq_false (by omega)]
set_option maxRecDepth 20000 in
theorem halfValid_fn (A B C : Int) (M : Mem) : FnP Try.prog 28 [hv A B C] M [.bool (halfB A B C)] := by
  refine Fn.of_vc cxOK Try.func28 rfl rfl rfl ?_
  repeat (first | refine VIf.tt ?_ | refine VIf.ff ?_)
  refine VFn.p (small_fn A 1000000 M (by decide)) ?_
  have e : ∀ {b1 b2 b3 : Bool}, decide (-1000000 ≤ A ∧ A ≤ 1000000) = b1 → decide (-1000000 ≤ B ∧ B ≤ 1000000) = b2 → decide (-1000000000000 ≤ C ∧ C ≤ 1000000000000) = b3 → halfB A B C = (b1 && b2 && b3 && !(decide (A = 0) && decide (B = 0))) := fun h1 h2 h3 => by unfold halfB; rw [h1, h2, h3]
  repeat (first | refine VIf.tt ?_ | refine VIf.ff ?_)
  refine VIf.mk (fun h1 => ?_) (fun h1 => ?_)
  rotate_left
  · repeat (first | refine VIf.tt ?_ | refine VIf.ff ?_)
    refine VFact.mk ⟨?_, rfl⟩ trivial
    rw [e h1 rfl rfl]; simp
  repeat (first | refine VIf.tt ?_ | refine VIf.ff ?_)
  refine VFn.p (small_fn B 1000000 M (by decide)) ?_
  repeat (first | refine VIf.tt ?_ | refine VIf.ff ?_)
  refine VIf.mk (fun h2 => ?_) (fun h2 => ?_)
  rotate_left
  · repeat (first | refine VIf.tt ?_ | refine VIf.ff ?_)
    refine VFact.mk ⟨?_, rfl⟩ trivial
    rw [e h1 h2 rfl]; simp
  repeat (first | refine VIf.tt ?_ | refine VIf.ff ?_)
  refine VFn.p (small_fn C 1000000000000 M (by decide)) ?_
  repeat (first | refine VIf.tt ?_ | refine VIf.ff ?_)
  refine VIf.mk (fun h3 => ?_) (fun h3 => ?_)
  rotate_left
  · repeat (first | refine VIf.tt ?_ | refine VIf.ff ?_)
    refine VFact.mk ⟨?_, rfl⟩ trivial
    rw [e h1 h2 h3]; simp
  repeat (first | refine VIf.tt ?_ | refine VIf.ff ?_)
  refine VIf.mk (fun h4 => ?_) (fun h4 => ?_)
  · repeat (first | refine VIf.tt ?_ | refine VIf.ff ?_)
    refine VFact.mk ⟨?_, rfl⟩ trivial
    rw [e h1 h2 h3, decide_eq_false (by simpa using h4)]; simp
  · repeat (first | refine VIf.tt ?_ | refine VIf.ff ?_)
    refine VFact.mk ⟨?_, rfl⟩ trivial
    have h4 : A = 0 := by simpa using h4
    rw [e h1 h2 h3, decide_eq_true h4]
    have : (B != 0) = !decide (B = 0) := by by_cases g : B = 0 <;> simp [g]
    simp only [this, Bool.true_and, List.cons.injEq, Value.bool.injEq, and_true]
theorem placeC_fn (x : Pt) (M : Mem) : FnP Try.prog 46 [ptv x] M [.bool (placeB x)] := by
  refine Fn.of_vc cxOK Try.func46 rfl rfl rfl ?_
  repeat' (first | refine VIf.tt ?_ | refine VIf.ff ?_ | refine VIf.mk (fun _ => ?_) (fun _ => ?_) | refine VFact.mk ?_ trivial)
  all_goals (refine ⟨bool1 ?_, rfl⟩; simp only [placeB, isCb, Bool.and_eq_true, decide_eq_true_eq, decide_eq_false_iff_not, Bool.false_eq_true, false_iff] at *; omega)
theorem over_fn (A B C : Int) (x : Pt) (M : Mem) (h : halfB A B C = true) (hx : placeB x = true) : FnP Try.prog 30 [hv A B C, ptv x] M [.int .i64 (ovr A B C x)] := by
  have hp := place_C hx
  unfold isC at hp
  simp only [halfB, Bool.and_eq_true, decide_eq_true_eq] at h
  have e1 := mul_bd (a := A) (b := x.1) 1000000 500000 (by omega) (by omega) (by omega) (by omega) (by omega) (by omega)
  have e2 := mul_bd (a := B) (b := x.2) 1000000 500000 (by omega) (by omega) (by omega) (by omega) (by omega) (by omega)
  refine Fn.of_vc cxOK Try.func30 rfl rfl rfl ?_
  repeat (first | refine VIf.tt ?_ | refine VIf.ff ?_)
  refine VArith.ok (by first | omega | (simp only; omega)) (by first | omega | (simp only; omega)) ?_
  repeat (first | refine VIf.tt ?_ | refine VIf.ff ?_)
  refine VArith.ok (by first | omega | (simp only; omega)) (by first | omega | (simp only; omega)) ?_
  repeat (first | refine VIf.tt ?_ | refine VIf.ff ?_)
  refine VArith.ok (by first | omega | (simp only; omega)) (by first | omega | (simp only; omega)) ?_
  repeat (first | refine VIf.tt ?_ | refine VIf.ff ?_)
  refine VArith.ok (by first | omega | (simp only; omega)) (by first | omega | (simp only; omega)) ?_
  repeat (first | refine VIf.tt ?_ | refine VIf.ff ?_)
  exact VFact.mk ⟨rfl, rfl⟩ trivial
theorem ovr_bd {A B C : Int} {x : Pt} (h : halfB A B C = true) (hx : placeB x = true) : -2000000000000 ≤ ovr A B C x ∧ ovr A B C x ≤ 2000000000000 := by
  have hp := place_C hx
  unfold isC at hp
  simp only [halfB, Bool.and_eq_true, decide_eq_true_eq] at h
  have e1 := mul_bd (a := A) (b := x.1) 1000000 500000 (by omega) (by omega) (by omega) (by omega) (by omega) (by omega)
  have e2 := mul_bd (a := B) (b := x.2) 1000000 500000 (by omega) (by omega) (by omega) (by omega) (by omega) (by omega)
  unfold ovr; omega
theorem crossesC_fn (s t : Int) (M : Mem) : FnP Try.prog 31 [.int .i64 s, .int .i64 t] M [.bool (crossesB s t)] := by
  refine Fn.of_vc cxOK Try.func31 rfl rfl rfl ?_
  repeat' (first | refine VIf.tt ?_ | refine VIf.ff ?_ | refine VIf.mk (fun _ => ?_) (fun _ => ?_) | refine VFact.mk ?_ trivial)
  all_goals (refine ⟨bool1 ?_, rfl⟩; simp only [crosses_iff, Bool.and_eq_true, decide_eq_true_eq, decide_eq_false_iff_not, Bool.false_eq_true, false_iff, true_iff] at *; omega)
theorem flr_pos {a b : Int} (hb : 0 < b) : ((a.tmod b ≠ 0 ∧ a < 0) → a.tdiv b - 1 = flr a b) ∧ (¬ (a.tmod b ≠ 0 ∧ a < 0) → a.tdiv b = flr a b) := by
  obtain ⟨s1, s2⟩ := div_spec (a := a) hb
  have e : flr a b = a / b := by unfold flr; rw [if_pos hb]
  have hs : a < 0 → a.tmod b ≤ 0 := fun h => by
    have := Int.tmod_nonneg (a := -a) b (by omega)
    rw [Int.neg_tmod] at this; omega
  have hn : 0 ≤ a → 0 ≤ a.tmod b := fun h => Int.tmod_nonneg b h
  rw [e]
  refine ⟨fun ⟨h1, h2⟩ => (s1 (by have := hs h2; omega)).1, fun h => (s2 ?_).1⟩
  by_cases h2 : a < 0
  · have : a.tmod b = 0 := Classical.byContradiction fun h1 => h ⟨h1, h2⟩
    omega
  · exact hn (by omega)
theorem flr_tdiv {a b : Int} (hb : b ≠ 0) : ((a.tmod b ≠ 0 ∧ (decide (a < 0) != decide (b < 0)) = true) → a.tdiv b - 1 = flr a b) ∧ (¬ (a.tmod b ≠ 0 ∧ (decide (a < 0) != decide (b < 0)) = true) → a.tdiv b = flr a b) := by
  rcases Int.lt_or_lt_of_ne hb with h | h
  · have hp := flr_pos (a := -a) (b := -b) (by omega)
    rw [Int.tdiv_neg, Int.neg_tdiv, Int.neg_neg, Int.tmod_neg, Int.neg_tmod] at hp
    have e : flr (-a) (-b) = flr a b := by unfold flr; rw [if_pos (by omega), if_neg (by omega)]
    rw [e] at hp
    have hc : (decide (a < 0) != decide (b < 0)) = true ↔ ¬ a < 0 := by
      rw [decide_eq_true h]
      by_cases g : a < 0 <;> simp [g]
    rw [hc]
    have z : a.tmod b ≠ 0 → a ≠ 0 := fun h0 e => h0 (by rw [e]; simp)
    refine ⟨fun ⟨h1, h2⟩ => hp.1 ⟨by omega, by have := z h1; omega⟩, fun h3 => hp.2 fun ⟨h1, h2⟩ => h3 ⟨by omega, by omega⟩⟩
  · have hp := flr_pos (a := a) h
    have hc : (decide (a < 0) != decide (b < 0)) = true ↔ a < 0 := by
      rw [decide_eq_false (show ¬ b < 0 by omega)]
      by_cases g : a < 0 <;> simp [g]
    rw [hc]; exact hp
theorem tdiv_bd2 {a b : Int} (hb : b ≠ 0) (h1 : -4000000000000000000 ≤ a) (h2 : a ≤ 4000000000000000000) : -4000000000000000000 ≤ a.tdiv b ∧ a.tdiv b ≤ 4000000000000000000 := by
  have h := Int.natAbs_tdiv_le_natAbs a b
  omega
theorem floorC_fn (a b : Int) (M : Mem) (hb : b ≠ 0) (h1 : -4000000000000000000 ≤ a) (h2 : a ≤ 4000000000000000000) (hb' : -1000000000000000 ≤ b ∧ b ≤ 1000000000000000) : FnP Try.prog 50 [.int .i64 a, .int .i64 b] M [.int .i64 (flr a b)] := by
  have hq := tdiv_bd2 hb h1 h2
  obtain ⟨f1, f2⟩ := flr_tdiv (a := a) hb
  refine Fn.of_vc cxOK Try.func50 rfl rfl rfl ?_
  repeat (first | refine VIf.tt ?_ | refine VIf.ff ?_)
  refine VDiv.mk hb ?_
  repeat (first | refine VIf.tt ?_ | refine VIf.ff ?_)
  refine VArith.ok (by omega) (by omega) ?_
  repeat (first | refine VIf.tt ?_ | refine VIf.ff ?_)
  refine VDiv.mk hb ?_
  repeat (first | refine VIf.tt ?_ | refine VIf.ff ?_)
  refine VIf.mk (fun c1 => ?_) (fun c1 => ?_)
  · have c1 : a.tmod b ≠ 0 := by simpa using c1
    repeat (first | refine VIf.tt ?_ | refine VIf.ff ?_)
    refine VIf.mk (fun c2 => ?_) (fun c2 => ?_)
    · repeat (first | refine VIf.tt ?_ | refine VIf.ff ?_)
      refine VArith.ok (by omega) (by omega) ?_
      repeat (first | refine VIf.tt ?_ | refine VIf.ff ?_)
      refine VFact.mk ⟨?_, rfl⟩ trivial
      exact congrArg (fun n => [Value.int .i64 n]) (f1 ⟨c1, c2⟩)
    · repeat (first | refine VIf.tt ?_ | refine VIf.ff ?_)
      refine VFact.mk ⟨?_, rfl⟩ trivial
      exact congrArg (fun n => [Value.int .i64 n]) (f2 fun h => absurd (c2.symm.trans h.2) (by decide))
  · have c1 : a.tmod b = 0 := by simpa using c1
    repeat (first | refine VIf.tt ?_ | refine VIf.ff ?_)
    refine VFact.mk ⟨?_, rfl⟩ trivial
    exact congrArg (fun n => [Value.int .i64 n]) (f2 fun h => h.1 c1)
theorem endsC_fn (x y s t : Int) (B1 B2 : Nat) (M : Mem) (hB1 : M B1 = some (.cells #[.int .i64 s] 3 (0, 0))) (hB2 : M B2 = some (.cells #[.int .i64 t] 3 (0, 0))) (hx : isC x) (hy : isC y)
    (hs : -2000000000000 ≤ s ∧ s ≤ 2000000000000) (ht : -2000000000000 ≤ t ∧ t ≤ 2000000000000) (hst : s - t ≠ 0) (hb : (-500000 ≤ lo1 x y s t ∧ lo1 x y s t ≤ 500000) ∧ -500000 ≤ hi1 x y s t ∧ hi1 x y s t ≤ 500000) :
    FnP Try.prog 49 [.int .i64 x, .int .i64 y, .pointer (some ⟨B1, 0, none⟩), .pointer (some ⟨B2, 0, none⟩)] M [.agg #[.int .i64 (lo1 x y s t), .int .i64 (hi1 x y s t)]] := by
  unfold isC at hx hy
  have e1 := mul_bd (a := y - x) (b := s) 1000000 2000000000000 (by omega) (by omega) (by omega) (by omega) (by omega) (by omega)
  unfold lo1 hi1 at *
  refine Fn.of_vc cxOK Try.func49 rfl rfl rfl ?_
  repeat (first | refine VIf.tt ?_ | refine VIf.ff ?_)
  refine VArith.ok (by first | omega | (simp only; omega)) (by first | omega | (simp only; omega)) ?_
  repeat (first | refine VIf.tt ?_ | refine VIf.ff ?_)
  refine VRead.mk _ (cellAt hB1 0 rfl) ?_
  repeat (first | refine VIf.tt ?_ | refine VIf.ff ?_)
  refine VArith.ok (by first | omega | (simp only; omega)) (by first | omega | (simp only; omega)) ?_
  repeat (first | refine VIf.tt ?_ | refine VIf.ff ?_)
  refine VDraw.go (by kernel_rfl) ?_
  repeat (first | refine VIf.tt ?_ | refine VIf.ff ?_)
  refine VRead.mk _ (cellAt hB1 0 rfl) ?_
  repeat (first | refine VIf.tt ?_ | refine VIf.ff ?_)
  refine VRead.mk _ (cellAt hB2 0 rfl) ?_
  repeat (first | refine VIf.tt ?_ | refine VIf.ff ?_)
  refine VArith.ok (by show _ ≤ s - t; omega) (by show s - t ≤ _; omega) ?_
  repeat (first | refine VIf.tt ?_ | refine VIf.ff ?_)
  refine VArith.ok (by show _ ≤ -((y - x) * s); omega) (by show -((y - x) * s) ≤ _; omega) ?_
  repeat (first | refine VIf.tt ?_ | refine VIf.ff ?_)
  refine VRead.mk _ (cellAt hB1 0 rfl) ?_
  repeat (first | refine VIf.tt ?_ | refine VIf.ff ?_)
  refine VRead.mk _ (cellAt hB2 0 rfl) ?_
  repeat (first | refine VIf.tt ?_ | refine VIf.ff ?_)
  refine VArith.ok (by show _ ≤ s - t; omega) (by show s - t ≤ _; omega) ?_
  repeat (first | refine VIf.tt ?_ | refine VIf.ff ?_)
  refine VFn.p (floorC_fn ((y - x) * s) (s - t) M hst (by omega) (by omega) (by omega)) ?_
  repeat (first | refine VIf.tt ?_ | refine VIf.ff ?_)
  refine VArith.ok (by show _ ≤ x + flr ((y - x) * s) (s - t); omega) (by show x + flr ((y - x) * s) (s - t) ≤ _; omega) ?_
  repeat (first | refine VIf.tt ?_ | refine VIf.ff ?_)
  refine VFn.p (floorC_fn (-((y - x) * s)) (s - t) M hst (by omega) (by omega) (by omega)) ?_
  repeat (first | refine VIf.tt ?_ | refine VIf.ff ?_)
  refine VArith.ok (by show _ ≤ x - flr (-((y - x) * s)) (s - t); omega) (by show x - flr (-((y - x) * s)) (s - t) ≤ _; omega) ?_
  repeat (first | refine VIf.tt ?_ | refine VIf.ff ?_)
  exact VFact.mk ⟨rfl, rfl⟩ trivial
def twoF (a b : Int) (i : Nat) : Int := if i = 0 then a else b
/-- Those places of a frame that were made after some rounds. -/
def frmL (a b : Pt) (s t : Int) (i j : Nat) : List Pt := (frameP a b s t).take (2 * i + j)
theorem frmL_step (a b : Pt) (s t : Int) {i j : Nat} (hi : i < 2) (hj : j < 2) : frmL a b s t i (j + 1) = frmL a b s t i j ++ [(twoF (lo1 a.1 b.1 s t) (hi1 a.1 b.1 s t) i, twoF (lo1 a.2 b.2 s t) (hi1 a.2 b.2 s t) j)] := by
  match i, hi, j, hj with
  | 0, _, 0, _ => rfl
  | 0, _, 1, _ => rfl
  | 1, _, 0, _ => rfl
  | 1, _, 1, _ => rfl
theorem frmL_row (a b : Pt) (s t : Int) {i : Nat} : frmL a b s t i 2 = frmL a b s t (i + 1) 0 := by unfold frmL; congr 1
theorem frmL_len (a b : Pt) (s t : Int) (i j : Nat) : (frmL a b s t i j).length ≤ 4 := by unfold frmL; rw [List.length_take]; exact Nat.min_le_right _ _
theorem two_cell (x y : Int) {i : Nat} (h : i < 2) : ([.int .i64 x, .int .i64 y] : List Value)[i * 1 + 0]? = some (.int .i64 (twoF x y i)) := by
  match i, h with
  | 0, _ => rfl
  | 1, _ => rfl
theorem one_at {xs : List Value} {off : Nat} {x : Value} (h : xs[off + 0]? = some x) : ∀ (j : Nat) (v : Value), [x][j]? = some v → xs[off + j]? = some v
  | 0, v, hj => by rw [← hj]; exact h
  | j + 1, v, hj => by simp at hj
theorem lohi_bd {x y s t : Int} (hx : isC x) (hy : isC y) (hc : crossesB s t = true) : (-500000 ≤ lo1 x y s t ∧ lo1 x y s t ≤ 500000) ∧ -500000 ≤ hi1 x y s t ∧ hi1 x y s t ≤ 500000 := by
  unfold isC at hx hy
  have h1 := frame_box (a := (x, x)) (b := (y, y)) (y := (lo1 x y s t, lo1 x y s t)) hc (by simp [frameP]) (m1 := -500000) (M1 := 500000) (m2 := -500000) (M2 := 500000) ⟨hx.1, hx.2, hx.1, hx.2⟩ ⟨hy.1, hy.2, hy.1, hy.2⟩
  have h2 := frame_box (a := (x, x)) (b := (y, y)) (y := (hi1 x y s t, hi1 x y s t)) hc (by simp [frameP]) (m1 := -500000) (M1 := 500000) (m2 := -500000) (M2 := 500000) ⟨hx.1, hx.2, hx.1, hx.2⟩ ⟨hy.1, hy.2, hy.1, hy.2⟩
  exact ⟨⟨h1.1, h1.2.1⟩, h2.1, h2.2.1⟩
set_option maxRecDepth 20000 in
theorem frameC_fn (a b : Pt) (s t : Int) (M : Mem) (ha : placeB a = true) (hb : placeB b = true) (hs : -2000000000000 ≤ s ∧ s ≤ 2000000000000) (ht : -2000000000000 ≤ t ∧ t ≤ 2000000000000) (hc : crossesB s t = true) :
    V.Fn Try.prog 32 [ptv a, ptv b, .int .i64 s, .int .i64 t] M fun rs M' => ∃ u, rs = [u] ∧ Pts M' u (frameP a b s t) := by
  refine Fn.of_vc cxOK Try.func32 rfl rfl rfl ?_
  have pa := place_C ha
  have pb := place_C hb
  have hne := crosses_ne hc
  have bx := lohi_bd (s := s) (t := t) pa.1 pb.1 hc
  have bY := lohi_bd (s := s) (t := t) pa.2 pb.2 hc
  repeat (first | refine VIf.tt ?_ | refine VIf.ff ?_)
  refine VOwn.frz ?_
  repeat (first | refine VIf.tt ?_ | refine VIf.ff ?_)
  refine VFzB.mk fun z1 B1 N1 hN1 hB1 => ?_
  repeat (first | refine VIf.tt ?_ | refine VIf.ff ?_)
  refine VFzB.mk fun z2 B2 N2 hN2 hB2 => ?_
  have hB1 : N1 B1 = some (.cells #[.int .i64 s] 3 (0, 0)) := hB1
  have hB2 : N2 B2 = some (.cells #[.int .i64 t] 3 (0, 0)) := hB2
  have hB1 := hN2 _ _ hB1
  repeat (first | refine VIf.tt ?_ | refine VIf.ff ?_)
  refine VFn.p (endsC_fn a.1 b.1 s t B1 B2 N2 hB1 hB2 pa.1 pb.1 hs ht hne bx) ?_
  repeat (first | refine VIf.tt ?_ | refine VIf.ff ?_)
  refine VCode.loop cxOK Nat
    (fun i => ⟨[(4, .box 0 0), (5, .box 1 0), (9, .clo 49 [] [.v (.pointer (some ⟨B1, 0, none⟩)), .v (.pointer (some ⟨B2, 0, none⟩))]), (10, .row 2), (21, .v (.agg #[.int .i64 (lo1 a.1 b.1 s t), .int .i64 (hi1 a.1 b.1 s t)])), (22, .v (.int .i64 i))],
      [(2, some (.row 26 2 (frmL a b s t i 0).length (cellsP (frmL a b s t i 0)))), (1, some (.box 26 [.v (.int .i64 b.1), .v (.int .i64 b.2)])), (0, some (.box 26 [.v (.int .i64 a.1), .v (.int .i64 a.2)]))], 3, N2, 43, ⟨fun _ => none, none, fun _ => none⟩⟩)
    (fun i => i ≤ 2) (fun i => 2 - i) 0 (Nat.zero_le _) ?_ ?_
  · exact Wk.nil 10 26 2 rfl (Wk.mk' (fun k => if k = 2 then 4 else k) (by repeat' constructor) (by repeat' constructor) (by simp [injOK]) rfl rfl rfl)
  rintro i hi m
  have hi : i ≤ 2 := hi
  repeat (first | refine VIf.tt ?_ | refine VIf.ff ?_)
  refine VIf.mk (fun hlt => ?_) (fun hge => ?_)
  rotate_left
  · have : i = 2 := by have := of_decide_eq_false hge; omega
    subst this
    repeat (first | refine VIf.tt ?_ | refine VIf.ff ?_)
    refine VFz.mk fun u B N4 hN4 hu => ?_
    repeat (first | refine VIf.tt ?_ | refine VIf.ff ?_)
    exact VFact.mk ⟨u, rfl, hu⟩ trivial
  have hlt : i < 2 := by have := of_decide_eq_true hlt; omega
  repeat (first | refine VIf.tt ?_ | refine VIf.ff ?_)
  refine VIdxR.mk i rfl hlt ?_
  repeat (first | refine VIf.tt ?_ | refine VIf.ff ?_)
  refine VCells.mk [.int .i64 (twoF (lo1 a.1 b.1 s t) (hi1 a.1 b.1 s t) i)] rfl (one_at (two_cell _ _ hlt)) ⟨_, rfl, ?_⟩
  repeat (first | refine VIf.tt ?_ | refine VIf.ff ?_)
  refine VFn.p (endsC_fn a.2 b.2 s t B1 B2 N2 hB1 hB2 pa.2 pb.2 hs ht hne bY) ?_
  repeat (first | refine VIf.tt ?_ | refine VIf.ff ?_)
  refine VCode.loop cxOK Nat
    (fun j => ⟨[(4, .box 0 0), (5, .box 1 0), (9, .clo 49 [] [.v (.pointer (some ⟨B1, 0, none⟩)), .v (.pointer (some ⟨B2, 0, none⟩))]), (10, .row 2), (12, .v (.int .i64 (twoF (lo1 a.1 b.1 s t) (hi1 a.1 b.1 s t) i))), (21, .v (.agg #[.int .i64 (lo1 a.1 b.1 s t), .int .i64 (hi1 a.1 b.1 s t)])), (22, .v (.int .i64 i)), (30, .v (.agg #[.int .i64 (lo1 a.2 b.2 s t), .int .i64 (hi1 a.2 b.2 s t)])), (31, .v (.int .i64 j))],
      [(2, some (.row 26 2 (frmL a b s t i j).length (cellsP (frmL a b s t i j)))), (1, some (.box 26 [.v (.int .i64 b.1), .v (.int .i64 b.2)])), (0, some (.box 26 [.v (.int .i64 a.1), .v (.int .i64 a.2)]))], 3, N2, 43, ⟨fun _ => none, none, fun _ => none⟩⟩)
    (fun j => j ≤ 2) (fun j => 2 - j) 0 (Nat.zero_le _) (Wk.mk' id (by repeat' constructor) (by repeat' constructor) (injOK_id _) rfl rfl rfl) ?_
  rintro j hj m
  have hj : j ≤ 2 := hj
  repeat (first | refine VIf.tt ?_ | refine VIf.ff ?_)
  refine VIf.mk (fun hlj => ?_) (fun hgj => ?_)
  · have hlj : j < 2 := by have := of_decide_eq_true hlj; omega
    have hlen := frmL_len a b s t i j
    repeat (first | refine VIf.tt ?_ | refine VIf.ff ?_)
    refine VIdxR.mk j rfl hlj ?_
    repeat (first | refine VIf.tt ?_ | refine VIf.ff ?_)
    refine VCells.mk [.int .i64 (twoF (lo1 a.2 b.2 s t) (hi1 a.2 b.2 s t) j)] rfl (one_at (two_cell _ _ hlj)) ⟨_, rfl, ?_⟩
    repeat (first | refine VIf.tt ?_ | refine VIf.ff ?_)
    refine VFact.mk (by show ((frmL a b s t i j).length + 1) * 16 ≤ _; omega) ?_
    repeat (first | refine VIf.tt ?_ | refine VIf.ff ?_)
    refine VArith.ok (by first | omega | (simp only; omega)) (by first | omega | (simp only; omega)) ?_
    refine ⟨j + 1, hlj, (by first | omega | (simp only; omega)), Wk.mk' (fun k => if k = 2 then 4 else k) (by repeat' constructor) ⟨⟨rfl, ⟨rfl, rfl, ?_, ?_⟩⟩, ⟨rfl, by repeat' constructor⟩, ⟨rfl, by repeat' constructor⟩, trivial⟩ (by simp [injOK]) rfl rfl rfl⟩
    · rw [frmL_step a b s t hlt hlj]; simp
    · rw [frmL_step a b s t hlt hlj]; simp [cellsP]
  · have : j = 2 := by have := of_decide_eq_false hgj; omega
    subst this
    repeat (first | refine VIf.tt ?_ | refine VIf.ff ?_)
    refine VArith.ok (by first | omega | (simp only; omega)) (by first | omega | (simp only; omega)) ?_
    refine ⟨i + 1, hlt, (by first | omega | (simp only; omega)), Wk.mk' id (by repeat' constructor) ⟨⟨rfl, ⟨rfl, rfl, ?_, ?_⟩⟩, ⟨rfl, by repeat' constructor⟩, ⟨rfl, by repeat' constructor⟩, trivial⟩ (injOK_id _) rfl rfl rfl⟩
    · exact congrArg List.length (frmL_row a b s t)
    · exact congrArg cellsP (frmL_row a b s t)
end Go.Proofs.Ytlihojecopfgfaa

/- Rays, plainly: 64 directions, and what lies between two of them. -/
namespace Go.Proofs.Ytlihojecopfgfaa
open Go
def tblR : List Pt := [(1000, 0), (995, 98), (981, 195), (957, 290), (924, 383), (882, 471), (831, 556), (773, 634), (707, 707), (634, 773), (556, 831), (471, 882), (383, 924), (290, 957), (195, 981), (98, 995)]
def rotL (p : Pt) : Pt := (-p.2, p.1)
def rotN : Nat → Pt → Pt
  | 0, p => p
  | n + 1, p => rotL (rotN n p)
def rayP (k : Nat) : Pt := rotN (k / 16 % 4) (gp tblR (k % 16))
def crs (a b : Pt) : Int := a.1 * b.2 - a.2 * b.1
def dot2 (a b : Pt) : Int := a.1 * b.1 + a.2 * b.2
theorem ray_64 (k : Nat) : rayP (k + 64) = rayP k := by
  unfold rayP
  rw [show (k + 64) / 16 % 4 = k / 16 % 4 by omega, show (k + 64) % 16 = k % 16 by omega]
theorem ray_mod (k : Nat) : rayP k = rayP (k % 64) := by
  unfold rayP
  rw [show k % 64 / 16 % 4 = k / 16 % 4 by omega, show k % 64 % 16 = k % 16 by omega]
theorem ray_cong {a b : Nat} (h : a % 64 = b % 64) : rayP a = rayP b := by rw [ray_mod a, ray_mod b, h]
def sgnT : Bool := (List.range 64).all fun a => (List.range 64).all fun d =>
  (!(decide (0 < d) && decide (d < 32)) || decide (0 < crs (rayP a) (rayP (a + d)))) && (!decide (d % 32 = 0) || decide (crs (rayP a) (rayP (a + d)) = 0)) && (!decide (32 < d) || decide (crs (rayP a) (rayP (a + d)) < 0))
theorem sgnT_ok : sgnT = true := by decide +kernel
theorem sgn_tab {a d : Nat} (ha : a < 64) (hd : d < 64) : (0 < d → d < 32 → 0 < crs (rayP a) (rayP (a + d))) ∧ (d % 32 = 0 → crs (rayP a) (rayP (a + d)) = 0) ∧ (32 < d → crs (rayP a) (rayP (a + d)) < 0) := by
  have h := sgnT_ok
  simp only [sgnT, List.all_eq_true, List.mem_range, Bool.and_eq_true, Bool.or_eq_true, Bool.not_eq_true', Bool.and_eq_false_iff, decide_eq_true_eq, decide_eq_false_iff_not] at h
  have := h a ha d hd
  obtain ⟨⟨h1, h2⟩, h3⟩ := this
  refine ⟨fun a1 a2 => ?_, fun a1 => h2.resolve_left (by omega), fun a1 => h3.resolve_left (by omega)⟩
  exact h1.resolve_left (by omega)
theorem ray_add {a d : Nat} : rayP (a % 64 + d) = rayP (a + d) := ray_cong (by omega)
theorem sgn_pos {a d : Nat} (h1 : 0 < d) (h2 : d < 32) : 0 < crs (rayP a) (rayP (a + d)) := by
  have := (sgn_tab (a := a % 64) (d := d) (by omega) (by omega)).1 h1 h2
  rwa [ray_add, ← ray_mod] at this
theorem sgn_zero {a d : Nat} (h1 : d < 64) (h2 : d % 32 = 0) : crs (rayP a) (rayP (a + d)) = 0 := by
  have := (sgn_tab (a := a % 64) (d := d) (by omega) (by omega)).2.1 h2
  rwa [ray_add, ← ray_mod] at this
theorem sgn_neg {a d : Nat} (h1 : 32 < d) (h2 : d < 64) : crs (rayP a) (rayP (a + d)) < 0 := by
  have := (sgn_tab (a := a % 64) (d := d) (by omega) (by omega)).2.2 h1
  rwa [ray_add, ← ray_mod] at this
theorem crs_anti (a b : Pt) : crs a b = - crs b a := by unfold crs; grind
theorem crs_self (a : Pt) : crs a a = 0 := by unfold crs; grind
/-- How a vector is made of two others. -/
theorem crs_comb (u v r s : Pt) : crs r s * crs u v = crs v s * crs u r + crs r v * crs u s := by unfold crs; grind
theorem dot_comb (u v r s : Pt) : crs r s * dot2 u v = crs v s * dot2 u r + crs r v * dot2 u s := by unfold crs dot2; grind
/-- A vector lies behind a ray, and ahead of the next one. -/
structure OfS (v : Pt) (k : Nat) : Prop where
  hk : k < 64
  ge : 0 ≤ crs (rayP k) v
  gt : 0 < crs v (rayP (k + 1))
theorem comb_pos {D X α β P Q : Int} (hD : 0 < D) (e : D * X = α * P + β * Q) (ha : 0 < α) (hb : 0 ≤ β) (hP : 0 ≤ P) (hQ : 0 ≤ Q) : 0 ≤ X := by
  have h1 := Int.mul_nonneg (Int.le_of_lt ha) hP
  have h2 := Int.mul_nonneg hb hQ
  exact pos_of_mul hD (by omega)
theorem comb_neg {D X α β P Q : Int} (hD : 0 < D) (e : D * X = α * P + β * Q) (ha : 0 < α) (hb : 0 ≤ β) (hP : P < 0) (hQ : Q ≤ 0) : X < 0 := by
  have h1 := Int.mul_neg_of_pos_of_neg ha hP
  have h2 := Int.mul_nonneg hb (show 0 ≤ -Q by omega)
  rw [Int.mul_neg] at h2
  refine Int.not_le.1 fun h => ?_
  have := Int.mul_nonneg (Int.le_of_lt hD) h
  omega
theorem comb_zero {D X α β P Q : Int} (hD : 0 < D) (e : D * X = α * P + β * Q) (hb : 0 ≤ β) (hP : P = 0) (hQ : Q < 0) : 0 ≤ X ↔ β = 0 := by
  subst hP
  rw [Int.mul_zero, Int.zero_add] at e
  constructor
  · intro h
    rcases Int.lt_or_eq_of_le hb with h1 | h1
    · have := Int.mul_neg_of_pos_of_neg h1 hQ
      have := Int.mul_nonneg (Int.le_of_lt hD) h
      omega
    · exact h1.symm
  · rintro rfl
    rw [Int.zero_mul] at e
    exact pos_of_mul hD (by omega)
def offR (k a : Nat) : Nat := (k + 64 - a) % 64
/-- What lies between two rays. -/
theorem btw_iff {v : Pt} {k a n : Nat} (h : OfS v k) (ha : a < 64) (h1 : 1 ≤ n) (h2 : n ≤ 31) : (0 ≤ crs (rayP a) v ∧ 0 ≤ crs v (rayP (a + n))) ↔ (offR k a < n ∨ offR k a = n ∧ crs (rayP k) v = 0) := by
  obtain ⟨hk, hb, hα⟩ := h
  obtain ⟨d, hd⟩ : ∃ d, offR k a = d := ⟨_, rfl⟩
  have hd' : d < 64 := by unfold offR at hd; omega
  have ek : rayP k = rayP (a + d) := ray_cong (by unfold offR at hd; omega)
  have ek1 : rayP (k + 1) = rayP (a + d + 1) := ray_cong (by unfold offR at hd; omega)
  rw [hd, ek]
  rw [ek] at hb
  rw [ek1] at hα
  have hD : 0 < crs (rayP (a + d)) (rayP (a + d + 1)) := sgn_pos (a := a + d) (d := 1) (by omega) (by omega)
  have e1 := crs_comb (rayP a) v (rayP (a + d)) (rayP (a + d + 1))
  have e2 : crs (rayP (a + d)) (rayP (a + d + 1)) * crs v (rayP (a + n)) = crs v (rayP (a + d + 1)) * crs (rayP (a + d)) (rayP (a + n)) + crs (rayP (a + d)) v * crs (rayP (a + d + 1)) (rayP (a + n)) := by
    have := crs_comb (rayP (a + n)) v (rayP (a + d)) (rayP (a + d + 1))
    rw [crs_anti v, crs_anti (rayP (a + d)) (rayP (a + n)), crs_anti (rayP (a + d + 1)) (rayP (a + n)), Int.mul_neg, Int.mul_neg, Int.mul_neg]
    omega
  -- the signs
  have sQ : ∀ x y : Nat, y < x → x - y < 64 → (x - y < 32 → crs (rayP (a + x)) (rayP (a + y)) < 0) ∧ (x - y = 32 → crs (rayP (a + x)) (rayP (a + y)) = 0) := fun x y hxy hlt => by
    have ex : a + x = a + y + (x - y) := by omega
    refine ⟨fun hl => ?_, fun hl => ?_⟩
    · have := sgn_pos (a := a + y) (d := x - y) (by omega) hl
      rw [← ex] at this
      rw [crs_anti]; omega
    · have := sgn_zero (a := a + y) (d := x - y) hlt (by omega)
      rw [← ex] at this
      rw [crs_anti]; omega
  rcases Nat.lt_trichotomy d n with c | c | c
  · have P1 : 0 ≤ crs (rayP a) (rayP (a + d)) := by
      rcases Nat.eq_zero_or_pos d with rfl | hd0
      · rw [Nat.add_zero, crs_self]; exact Int.le_refl _
      · exact Int.le_of_lt (sgn_pos hd0 (by omega))
    have P2 : 0 < crs (rayP a) (rayP (a + d + 1)) := sgn_pos (a := a) (d := d + 1) (by omega) (by omega)
    have Q1 : 0 < crs (rayP (a + d)) (rayP (a + n)) := by
      have := sgn_pos (a := a + d) (d := n - d) (by omega) (by omega)
      rwa [show a + d + (n - d) = a + n by omega] at this
    have Q2 : 0 ≤ crs (rayP (a + d + 1)) (rayP (a + n)) := by
      rcases Nat.eq_or_lt_of_le (show d + 1 ≤ n by omega) with e | e
      · rw [show a + n = a + d + 1 by omega, crs_self]; exact Int.le_refl _
      · have := sgn_pos (a := a + d + 1) (d := n - (d + 1)) (by omega) (by omega)
        rw [show a + d + 1 + (n - (d + 1)) = a + n by omega] at this
        exact Int.le_of_lt this
    exact ⟨fun _ => .inl c, fun _ => ⟨comb_pos hD e1 hα hb P1 (Int.le_of_lt P2), comb_pos hD e2 hα hb (Int.le_of_lt Q1) Q2⟩⟩
  · subst c
    have P1 : 0 < crs (rayP a) (rayP (a + d)) := sgn_pos (by omega) (by omega)
    have P2 : 0 ≤ crs (rayP a) (rayP (a + d + 1)) := by
      rcases Nat.eq_or_lt_of_le h2 with e | e
      · rw [show a + d + 1 = a + (d + 1) by omega, sgn_zero (a := a) (d := d + 1) (by omega) (by omega)]; exact Int.le_refl _
      · exact Int.le_of_lt (sgn_pos (a := a) (d := d + 1) (by omega) (by omega))
    have Q2 := (sQ (d + 1) d (by omega) (by omega)).1 (by omega)
    have hX := comb_pos hD e1 hα hb (Int.le_of_lt P1) P2
    have hY := comb_zero hD e2 hb (crs_self _) Q2
    rw [hY]
    exact ⟨fun h => .inr ⟨rfl, h.2⟩, fun h => ⟨hX, (h.resolve_left (Nat.lt_irrefl _)).2⟩⟩
  · refine ⟨fun ⟨hX, hY⟩ => ?_, fun h => ?_⟩
    · exfalso
      rcases Nat.lt_trichotomy d 32 with c2 | c2 | c2
      · have Q1 := (sQ d n c (by omega)).1 (by omega)
        have Q2 := (sQ (d + 1) n (by omega) (by omega)).1 (by omega)
        have := comb_neg hD e2 hα hb Q1 (Int.le_of_lt Q2)
        omega
      · subst c2
        have P2 := sgn_neg (a := a) (d := 33) (by omega) (by omega)
        have hb0 := (comb_zero hD e1 hb (sgn_zero (by omega) (by omega)) P2).1 hX
        have Q1 := (sQ 32 n c (by omega)).1 (by omega)
        rw [hb0, Int.zero_mul, Int.add_zero] at e2
        have := Int.mul_neg_of_pos_of_neg hα Q1
        have := Int.mul_nonneg (Int.le_of_lt hD) hY
        omega
      · have P1 := sgn_neg (a := a) (d := d) c2 hd'
        have P2 : crs (rayP a) (rayP (a + d + 1)) ≤ 0 := by
          rcases Nat.eq_or_lt_of_le (show d ≤ 63 by omega) with e | e
          · rw [show a + d + 1 = a + 64 by omega, ray_64, crs_self]; exact Int.le_refl _
          · exact Int.le_of_lt (sgn_neg (a := a) (d := d + 1) (by omega) (by omega))
        have := comb_neg hD e1 hα hb P1 P2
        omega
    · omega
theorem rot_rot (p : Pt) : rotL (rotL p) = (-p.1, -p.2) := rfl
def rot16T : Bool := (List.range 64).all fun k => decide (rayP (k + 16) = rotL (rayP k))
theorem rot16T_ok : rot16T = true := by decide +kernel
theorem ray_16 (k : Nat) : rayP (k + 16) = rotL (rayP k) := by
  have h := rot16T_ok
  simp only [rot16T, List.all_eq_true, List.mem_range, decide_eq_true_eq] at h
  have := h (k % 64) (Nat.mod_lt _ (by decide))
  rw [ray_add, ← ray_mod] at this
  exact this
theorem ray_32 (k : Nat) : rayP (k + 32) = (-(rayP k).1, -(rayP k).2) := by
  rw [show k + 32 = k + 16 + 16 by omega, ray_16, ray_16]; rfl
theorem crs_rot (a b : Pt) : crs (rotL a) (rotL b) = crs a b := by unfold crs rotL; grind
def normT : Bool := (List.range 64).all fun k => decide (0 < dot2 (rayP k) (rayP k))
theorem normT_ok : normT = true := by decide +kernel
theorem ray_norm (k : Nat) : 0 < dot2 (rayP k) (rayP k) := by
  have h := normT_ok
  simp only [normT, List.all_eq_true, List.mem_range, decide_eq_true_eq] at h
  rw [ray_mod k]
  exact h (k % 64) (Nat.mod_lt _ (by decide))
/-- What lies on a ray. -/
theorem on_iff {v : Pt} {k a : Nat} (h : OfS v k) (ha : a < 64) : (crs (rayP a) v = 0 ∧ 0 < dot2 (rayP a) v) ↔ (offR k a = 0 ∧ crs (rayP k) v = 0) := by
  obtain ⟨hk, hb, hα⟩ := h
  obtain ⟨d, hd⟩ : ∃ d, offR k a = d := ⟨_, rfl⟩
  have hd' : d < 64 := by unfold offR at hd; omega
  have ek : rayP k = rayP (a + d) := ray_cong (by unfold offR at hd; omega)
  have ek1 : rayP (k + 1) = rayP (a + d + 1) := ray_cong (by unfold offR at hd; omega)
  rw [hd, ek]
  rw [ek] at hb
  rw [ek1] at hα
  have hD : 0 < crs (rayP (a + d)) (rayP (a + d + 1)) := sgn_pos (a := a + d) (d := 1) (by omega) (by omega)
  have e1 := crs_comb (rayP a) v (rayP (a + d)) (rayP (a + d + 1))
  have e2 := dot_comb (rayP a) v (rayP (a + d)) (rayP (a + d + 1))
  rcases Nat.eq_zero_or_pos d with rfl | hd0
  · constructor
    · rintro ⟨h1, _⟩
      exact ⟨rfl, h1⟩
    · rintro ⟨_, h1⟩
      rw [Nat.add_zero] at h1 e2 hD hα
      refine ⟨h1, ?_⟩
      rw [h1, Int.zero_mul, Int.add_zero] at e2
      have := Int.mul_pos hα (ray_norm a)
      refine Int.not_le.1 fun h => ?_
      have := Int.mul_nonneg (Int.le_of_lt hD) (show 0 ≤ -dot2 (rayP a) v by omega)
      rw [Int.mul_neg] at this
      omega
  · refine ⟨fun ⟨h1, h2⟩ => ?_, fun h => absurd h.1 (by omega)⟩
    exfalso
    rcases Nat.lt_trichotomy d 32 with c2 | c2 | c2
    · have P1 : 0 < crs (rayP a) (rayP (a + d)) := sgn_pos hd0 c2
      have P2 : 0 ≤ crs (rayP a) (rayP (a + d + 1)) := by
        rcases Nat.eq_or_lt_of_le (show d ≤ 31 by omega) with e | e
        · rw [show a + d + 1 = a + (d + 1) by omega, sgn_zero (a := a) (d := d + 1) (by omega) (by omega)]; exact Int.le_refl _
        · exact Int.le_of_lt (sgn_pos (a := a) (d := d + 1) (by omega) (by omega))
      rw [h1, Int.mul_zero] at e1
      have := Int.mul_pos hα P1
      have := Int.mul_nonneg hb P2
      omega
    · subst c2
      have P2 := sgn_neg (a := a) (d := 33) (by omega) (by omega)
      have hb0 := (comb_zero hD e1 hb (sgn_zero (by omega) (by omega)) P2).1 (by omega)
      rw [hb0, Int.zero_mul, Int.add_zero] at e2
      have e3 : dot2 (rayP a) (rayP (a + 32)) = - dot2 (rayP a) (rayP a) := by rw [ray_32]; unfold dot2; grind
      have hn := ray_norm a
      have := Int.mul_neg_of_pos_of_neg hα (show dot2 (rayP a) (rayP (a + 32)) < 0 by omega)
      have := Int.mul_pos hD h2
      omega
    · have P1 := sgn_neg (a := a) (d := d) c2 hd'
      have P2 : crs (rayP a) (rayP (a + d + 1)) ≤ 0 := by
        rcases Nat.eq_or_lt_of_le (show d ≤ 63 by omega) with e | e
        · rw [show a + d + 1 = a + 64 by omega, ray_64, crs_self]; exact Int.le_refl _
        · exact Int.le_of_lt (sgn_neg (a := a) (d := d + 1) (by omega) (by omega))
      have := comb_neg hD e1 hα hb P1 P2
      omega
theorem ofS_unique {v : Pt} {k j : Nat} (h : OfS v k) (h' : OfS v j) : k = j := by
  have h1 := h.hk
  have h2 := h'.hk
  have := (btw_iff h h2 (n := 1) (by omega) (by omega)).1 ⟨h'.ge, Int.le_of_lt h'.gt⟩
  rcases this with c | ⟨c, e⟩
  · unfold offR at c; omega
  · have ek : rayP k = rayP (j + 1) := ray_cong (by unfold offR at c; omega)
    have := h'.gt
    rw [crs_anti, ← ek, e] at this
    omega
theorem ofS_rot {v : Pt} {k : Nat} (h : OfS v k) : OfS (rotL v) ((k + 16) % 64) := by
  have e1 : rayP ((k + 16) % 64) = rotL (rayP k) := by rw [← ray_mod, ray_16]
  have e2 : rayP ((k + 16) % 64 + 1) = rotL (rayP (k + 1)) := by rw [ray_add, show k + 16 + 1 = k + 1 + 16 by omega, ray_16]
  exact ⟨Nat.mod_lt _ (by decide), by rw [e1, crs_rot]; exact h.ge, by rw [e2, crs_rot]; exact h.gt⟩
def onP (v : Pt) (k : Nat) : Bool := decide (crs (rayP k) v = 0)
theorem onP_rot (v : Pt) (k : Nat) : onP (rotL v) ((k + 16) % 64) = onP v k := by
  unfold onP
  rw [← ray_mod, ray_16, crs_rot]
/-- What the program says of a vector between two rays. -/
def btwP (k a n : Nat) (on : Bool) : Bool := decide (offR k a < n) || (decide (offR k a = n) && on)
def rawP (a n : Nat) (v : Pt) : Bool := if n = 0 then decide (crs (rayP a) v = 0) && decide (0 < dot2 (rayP a) v) else decide (0 ≤ crs (rayP a) v) && decide (0 ≤ crs v (rayP (a + n)))
theorem raw_is {v : Pt} {k a n : Nat} (h : OfS v k) (ha : a < 64) (hn : n ≤ 31) : rawP a n v = btwP k a n (onP v k) := by
  unfold rawP btwP onP
  rw [Bool.eq_iff_iff]
  split
  · rename_i e
    subst e
    simp only [Bool.and_eq_true, Bool.or_eq_true, decide_eq_true_eq]
    rw [on_iff h ha]
    omega
  · simp only [Bool.and_eq_true, Bool.or_eq_true, decide_eq_true_eq]
    rw [btw_iff h ha (by omega) hn]
end Go.Proofs.Ytlihojecopfgfaa
