import Derived.Test.YtlppfikkgcfaoaaGreatHa4
set_option linter.unusedVariables false
set_option linter.unusedSimpArgs false
/- Rays, plainly: 64 directions, and what lies between two of them. -/
namespace Go.Proofs.YtlppfikkgcfaoaaGreat
open Go
def tblR : List Pt := [(1000, 0), (995, 98), (981, 195), (957, 290), (924, 383), (882, 471), (831, 556), (773, 634), (707, 707), (634, 773), (556, 831), (471, 882), (383, 924), (290, 957), (195, 981), (98, 995)]
def rotL (p : Pt) : Pt := (-p.2, p.1)
def rotN : Nat → Pt → Pt
  | 0, p => p
  | n + 1, p => rotL (rotN n p)
def rayP (k : Nat) : Pt := rotN (k / 16 % 4) (gp tblR (k % 16))
def crs (a b : Pt) : Int := a.1 * b.2 - a.2 * b.1
def dot2 (a b : Pt) : Int := a.1 * b.1 + a.2 * b.2
theorem ray_64 (k : Nat) : rayP (k + 64) = rayP k := by
  unfold rayP
  rw [show (k + 64) / 16 % 4 = k / 16 % 4 by omega, show (k + 64) % 16 = k % 16 by omega]
theorem ray_mod (k : Nat) : rayP k = rayP (k % 64) := by
  unfold rayP
  rw [show k % 64 / 16 % 4 = k / 16 % 4 by omega, show k % 64 % 16 = k % 16 by omega]
theorem ray_cong {a b : Nat} (h : a % 64 = b % 64) : rayP a = rayP b := by rw [ray_mod a, ray_mod b, h]
def sgnT : Bool := (List.range 64).all fun a => (List.range 64).all fun d =>
  (!(decide (0 < d) && decide (d < 32)) || decide (0 < crs (rayP a) (rayP (a + d)))) && (!decide (d % 32 = 0) || decide (crs (rayP a) (rayP (a + d)) = 0)) && (!decide (32 < d) || decide (crs (rayP a) (rayP (a + d)) < 0))
theorem sgnT_ok : sgnT = true := by decide +kernel
theorem sgn_tab {a d : Nat} (ha : a < 64) (hd : d < 64) : (0 < d → d < 32 → 0 < crs (rayP a) (rayP (a + d))) ∧ (d % 32 = 0 → crs (rayP a) (rayP (a + d)) = 0) ∧ (32 < d → crs (rayP a) (rayP (a + d)) < 0) := by
  have h := sgnT_ok
  simp only [sgnT, List.all_eq_true, List.mem_range, Bool.and_eq_true, Bool.or_eq_true, Bool.not_eq_true', Bool.and_eq_false_iff, decide_eq_true_eq, decide_eq_false_iff_not] at h
  have := h a ha d hd
  obtain ⟨⟨h1, h2⟩, h3⟩ := this
  refine ⟨fun a1 a2 => ?_, fun a1 => h2.resolve_left (by omega), fun a1 => h3.resolve_left (by omega)⟩
  exact h1.resolve_left (by omega)
theorem ray_add {a d : Nat} : rayP (a % 64 + d) = rayP (a + d) := ray_cong (by omega)
theorem sgn_pos {a d : Nat} (h1 : 0 < d) (h2 : d < 32) : 0 < crs (rayP a) (rayP (a + d)) := by
  have := (sgn_tab (a := a % 64) (d := d) (by omega) (by omega)).1 h1 h2
  rwa [ray_add, ← ray_mod] at this
theorem sgn_zero {a d : Nat} (h1 : d < 64) (h2 : d % 32 = 0) : crs (rayP a) (rayP (a + d)) = 0 := by
  have := (sgn_tab (a := a % 64) (d := d) (by omega) (by omega)).2.1 h2
  rwa [ray_add, ← ray_mod] at this
theorem sgn_neg {a d : Nat} (h1 : 32 < d) (h2 : d < 64) : crs (rayP a) (rayP (a + d)) < 0 := by
  have := (sgn_tab (a := a % 64) (d := d) (by omega) (by omega)).2.2 h1
  rwa [ray_add, ← ray_mod] at this
theorem crs_anti (a b : Pt) : crs a b = - crs b a := by unfold crs; grind
theorem crs_self (a : Pt) : crs a a = 0 := by unfold crs; grind
/-- How a vector is made of two others. -/
theorem crs_comb (u v r s : Pt) : crs r s * crs u v = crs v s * crs u r + crs r v * crs u s := by unfold crs; grind
theorem dot_comb (u v r s : Pt) : crs r s * dot2 u v = crs v s * dot2 u r + crs r v * dot2 u s := by unfold crs dot2; grind
/-- A vector lies behind a ray, and ahead of the next one. -/
structure OfS (v : Pt) (k : Nat) : Prop where
  hk : k < 64
  ge : 0 ≤ crs (rayP k) v
  gt : 0 < crs v (rayP (k + 1))
theorem comb_pos {D X α β P Q : Int} (hD : 0 < D) (e : D * X = α * P + β * Q) (ha : 0 < α) (hb : 0 ≤ β) (hP : 0 ≤ P) (hQ : 0 ≤ Q) : 0 ≤ X := by
  have h1 := Int.mul_nonneg (Int.le_of_lt ha) hP
  have h2 := Int.mul_nonneg hb hQ
  exact pos_of_mul hD (by omega)
theorem comb_neg {D X α β P Q : Int} (hD : 0 < D) (e : D * X = α * P + β * Q) (ha : 0 < α) (hb : 0 ≤ β) (hP : P < 0) (hQ : Q ≤ 0) : X < 0 := by
  have h1 := Int.mul_neg_of_pos_of_neg ha hP
  have h2 := Int.mul_nonneg hb (show 0 ≤ -Q by omega)
  rw [Int.mul_neg] at h2
  refine Int.not_le.1 fun h => ?_
  have := Int.mul_nonneg (Int.le_of_lt hD) h
  omega
theorem comb_zero {D X α β P Q : Int} (hD : 0 < D) (e : D * X = α * P + β * Q) (hb : 0 ≤ β) (hP : P = 0) (hQ : Q < 0) : 0 ≤ X ↔ β = 0 := by
  subst hP
  rw [Int.mul_zero, Int.zero_add] at e
  constructor
  · intro h
    rcases Int.lt_or_eq_of_le hb with h1 | h1
    · have := Int.mul_neg_of_pos_of_neg h1 hQ
      have := Int.mul_nonneg (Int.le_of_lt hD) h
      omega
    · exact h1.symm
  · rintro rfl
    rw [Int.zero_mul] at e
    exact pos_of_mul hD (by omega)
def offR (k a : Nat) : Nat := (k + 64 - a) % 64
/-- What lies between two rays. -/
theorem btw_iff {v : Pt} {k a n : Nat} (h : OfS v k) (ha : a < 64) (h1 : 1 ≤ n) (h2 : n ≤ 31) : (0 ≤ crs (rayP a) v ∧ 0 ≤ crs v (rayP (a + n))) ↔ (offR k a < n ∨ offR k a = n ∧ crs (rayP k) v = 0) := by
  obtain ⟨hk, hb, hα⟩ := h
  obtain ⟨d, hd⟩ : ∃ d, offR k a = d := ⟨_, rfl⟩
  have hd' : d < 64 := by unfold offR at hd; omega
  have ek : rayP k = rayP (a + d) := ray_cong (by unfold offR at hd; omega)
  have ek1 : rayP (k + 1) = rayP (a + d + 1) := ray_cong (by unfold offR at hd; omega)
  rw [hd, ek]
  rw [ek] at hb
  rw [ek1] at hα
  have hD : 0 < crs (rayP (a + d)) (rayP (a + d + 1)) := sgn_pos (a := a + d) (d := 1) (by omega) (by omega)
  have e1 := crs_comb (rayP a) v (rayP (a + d)) (rayP (a + d + 1))
  have e2 : crs (rayP (a + d)) (rayP (a + d + 1)) * crs v (rayP (a + n)) = crs v (rayP (a + d + 1)) * crs (rayP (a + d)) (rayP (a + n)) + crs (rayP (a + d)) v * crs (rayP (a + d + 1)) (rayP (a + n)) := by
    have := crs_comb (rayP (a + n)) v (rayP (a + d)) (rayP (a + d + 1))
    rw [crs_anti v, crs_anti (rayP (a + d)) (rayP (a + n)), crs_anti (rayP (a + d + 1)) (rayP (a + n)), Int.mul_neg, Int.mul_neg, Int.mul_neg]
    omega
  -- the signs
  have sQ : ∀ x y : Nat, y < x → x - y < 64 → (x - y < 32 → crs (rayP (a + x)) (rayP (a + y)) < 0) ∧ (x - y = 32 → crs (rayP (a + x)) (rayP (a + y)) = 0) := fun x y hxy hlt => by
    have ex : a + x = a + y + (x - y) := by omega
    refine ⟨fun hl => ?_, fun hl => ?_⟩
    · have := sgn_pos (a := a + y) (d := x - y) (by omega) hl
      rw [← ex] at this
      rw [crs_anti]; omega
    · have := sgn_zero (a := a + y) (d := x - y) hlt (by omega)
      rw [← ex] at this
      rw [crs_anti]; omega
  rcases Nat.lt_trichotomy d n with c | c | c
  · have P1 : 0 ≤ crs (rayP a) (rayP (a + d)) := by
      rcases Nat.eq_zero_or_pos d with rfl | hd0
      · rw [Nat.add_zero, crs_self]; exact Int.le_refl _
      · exact Int.le_of_lt (sgn_pos hd0 (by omega))
    have P2 : 0 < crs (rayP a) (rayP (a + d + 1)) := sgn_pos (a := a) (d := d + 1) (by omega) (by omega)
    have Q1 : 0 < crs (rayP (a + d)) (rayP (a + n)) := by
      have := sgn_pos (a := a + d) (d := n - d) (by omega) (by omega)
      rwa [show a + d + (n - d) = a + n by omega] at this
    have Q2 : 0 ≤ crs (rayP (a + d + 1)) (rayP (a + n)) := by
      rcases Nat.eq_or_lt_of_le (show d + 1 ≤ n by omega) with e | e
      · rw [show a + n = a + d + 1 by omega, crs_self]; exact Int.le_refl _
      · have := sgn_pos (a := a + d + 1) (d := n - (d + 1)) (by omega) (by omega)
        rw [show a + d + 1 + (n - (d + 1)) = a + n by omega] at this
        exact Int.le_of_lt this
    exact ⟨fun _ => .inl c, fun _ => ⟨comb_pos hD e1 hα hb P1 (Int.le_of_lt P2), comb_pos hD e2 hα hb (Int.le_of_lt Q1) Q2⟩⟩
  · subst c
    have P1 : 0 < crs (rayP a) (rayP (a + d)) := sgn_pos (by omega) (by omega)
    have P2 : 0 ≤ crs (rayP a) (rayP (a + d + 1)) := by
      rcases Nat.eq_or_lt_of_le h2 with e | e
      · rw [show a + d + 1 = a + (d + 1) by omega, sgn_zero (a := a) (d := d + 1) (by omega) (by omega)]; exact Int.le_refl _
      · exact Int.le_of_lt (sgn_pos (a := a) (d := d + 1) (by omega) (by omega))
    have Q2 := (sQ (d + 1) d (by omega) (by omega)).1 (by omega)
    have hX := comb_pos hD e1 hα hb (Int.le_of_lt P1) P2
    have hY := comb_zero hD e2 hb (crs_self _) Q2
    rw [hY]
    exact ⟨fun h => .inr ⟨rfl, h.2⟩, fun h => ⟨hX, (h.resolve_left (Nat.lt_irrefl _)).2⟩⟩
  · refine ⟨fun ⟨hX, hY⟩ => ?_, fun h => ?_⟩
    · exfalso
      rcases Nat.lt_trichotomy d 32 with c2 | c2 | c2
      · have Q1 := (sQ d n c (by omega)).1 (by omega)
        have Q2 := (sQ (d + 1) n (by omega) (by omega)).1 (by omega)
        have := comb_neg hD e2 hα hb Q1 (Int.le_of_lt Q2)
        omega
      · subst c2
        have P2 := sgn_neg (a := a) (d := 33) (by omega) (by omega)
        have hb0 := (comb_zero hD e1 hb (sgn_zero (by omega) (by omega)) P2).1 hX
        have Q1 := (sQ 32 n c (by omega)).1 (by omega)
        rw [hb0, Int.zero_mul, Int.add_zero] at e2
        have := Int.mul_neg_of_pos_of_neg hα Q1
        have := Int.mul_nonneg (Int.le_of_lt hD) hY
        omega
      · have P1 := sgn_neg (a := a) (d := d) c2 hd'
        have P2 : crs (rayP a) (rayP (a + d + 1)) ≤ 0 := by
          rcases Nat.eq_or_lt_of_le (show d ≤ 63 by omega) with e | e
          · rw [show a + d + 1 = a + 64 by omega, ray_64, crs_self]; exact Int.le_refl _
          · exact Int.le_of_lt (sgn_neg (a := a) (d := d + 1) (by omega) (by omega))
        have := comb_neg hD e1 hα hb P1 P2
        omega
    · omega
theorem rot_rot (p : Pt) : rotL (rotL p) = (-p.1, -p.2) := rfl
def rot16T : Bool := (List.range 64).all fun k => decide (rayP (k + 16) = rotL (rayP k))
theorem rot16T_ok : rot16T = true := by decide +kernel
theorem ray_16 (k : Nat) : rayP (k + 16) = rotL (rayP k) := by
  have h := rot16T_ok
  simp only [rot16T, List.all_eq_true, List.mem_range, decide_eq_true_eq] at h
  have := h (k % 64) (Nat.mod_lt _ (by decide))
  rw [ray_add, ← ray_mod] at this
  exact this
theorem ray_32 (k : Nat) : rayP (k + 32) = (-(rayP k).1, -(rayP k).2) := by
  rw [show k + 32 = k + 16 + 16 by omega, ray_16, ray_16]; rfl
theorem crs_rot (a b : Pt) : crs (rotL a) (rotL b) = crs a b := by unfold crs rotL; grind
def normT : Bool := (List.range 64).all fun k => decide (0 < dot2 (rayP k) (rayP k))
theorem normT_ok : normT = true := by decide +kernel
theorem ray_norm (k : Nat) : 0 < dot2 (rayP k) (rayP k) := by
  have h := normT_ok
  simp only [normT, List.all_eq_true, List.mem_range, decide_eq_true_eq] at h
  rw [ray_mod k]
  exact h (k % 64) (Nat.mod_lt _ (by decide))
/-- What lies on a ray. -/
theorem on_iff {v : Pt} {k a : Nat} (h : OfS v k) (ha : a < 64) : (crs (rayP a) v = 0 ∧ 0 < dot2 (rayP a) v) ↔ (offR k a = 0 ∧ crs (rayP k) v = 0) := by
  obtain ⟨hk, hb, hα⟩ := h
  obtain ⟨d, hd⟩ : ∃ d, offR k a = d := ⟨_, rfl⟩
  have hd' : d < 64 := by unfold offR at hd; omega
  have ek : rayP k = rayP (a + d) := ray_cong (by unfold offR at hd; omega)
  have ek1 : rayP (k + 1) = rayP (a + d + 1) := ray_cong (by unfold offR at hd; omega)
  rw [hd, ek]
  rw [ek] at hb
  rw [ek1] at hα
  have hD : 0 < crs (rayP (a + d)) (rayP (a + d + 1)) := sgn_pos (a := a + d) (d := 1) (by omega) (by omega)
  have e1 := crs_comb (rayP a) v (rayP (a + d)) (rayP (a + d + 1))
  have e2 := dot_comb (rayP a) v (rayP (a + d)) (rayP (a + d + 1))
  rcases Nat.eq_zero_or_pos d with rfl | hd0
  · constructor
    · rintro ⟨h1, _⟩
      exact ⟨rfl, h1⟩
    · rintro ⟨_, h1⟩
      rw [Nat.add_zero] at h1 e2 hD hα
      refine ⟨h1, ?_⟩
      rw [h1, Int.zero_mul, Int.add_zero] at e2
      have := Int.mul_pos hα (ray_norm a)
      refine Int.not_le.1 fun h => ?_
      have := Int.mul_nonneg (Int.le_of_lt hD) (show 0 ≤ -dot2 (rayP a) v by omega)
      rw [Int.mul_neg] at this
      omega
  · refine ⟨fun ⟨h1, h2⟩ => ?_, fun h => absurd h.1 (by omega)⟩
    exfalso
    rcases Nat.lt_trichotomy d 32 with c2 | c2 | c2
    · have P1 : 0 < crs (rayP a) (rayP (a + d)) := sgn_pos hd0 c2
      have P2 : 0 ≤ crs (rayP a) (rayP (a + d + 1)) := by
        rcases Nat.eq_or_lt_of_le (show d ≤ 31 by omega) with e | e
        · rw [show a + d + 1 = a + (d + 1) by omega, sgn_zero (a := a) (d := d + 1) (by omega) (by omega)]; exact Int.le_refl _
        · exact Int.le_of_lt (sgn_pos (a := a) (d := d + 1) (by omega) (by omega))
      rw [h1, Int.mul_zero] at e1
      have := Int.mul_pos hα P1
      have := Int.mul_nonneg hb P2
      omega
    · subst c2
      have P2 := sgn_neg (a := a) (d := 33) (by omega) (by omega)
      have hb0 := (comb_zero hD e1 hb (sgn_zero (by omega) (by omega)) P2).1 (by omega)
      rw [hb0, Int.zero_mul, Int.add_zero] at e2
      have e3 : dot2 (rayP a) (rayP (a + 32)) = - dot2 (rayP a) (rayP a) := by rw [ray_32]; unfold dot2; grind
      have hn := ray_norm a
      have := Int.mul_neg_of_pos_of_neg hα (show dot2 (rayP a) (rayP (a + 32)) < 0 by omega)
      have := Int.mul_pos hD h2
      omega
    · have P1 := sgn_neg (a := a) (d := d) c2 hd'
      have P2 : crs (rayP a) (rayP (a + d + 1)) ≤ 0 := by
        rcases Nat.eq_or_lt_of_le (show d ≤ 63 by omega) with e | e
        · rw [show a + d + 1 = a + 64 by omega, ray_64, crs_self]; exact Int.le_refl _
        · exact Int.le_of_lt (sgn_neg (a := a) (d := d + 1) (by omega) (by omega))
      have := comb_neg hD e1 hα hb P1 P2
      omega
theorem ofS_unique {v : Pt} {k j : Nat} (h : OfS v k) (h' : OfS v j) : k = j := by
  have h1 := h.hk
  have h2 := h'.hk
  have := (btw_iff h h2 (n := 1) (by omega) (by omega)).1 ⟨h'.ge, Int.le_of_lt h'.gt⟩
  rcases this with c | ⟨c, e⟩
  · unfold offR at c; omega
  · have ek : rayP k = rayP (j + 1) := ray_cong (by unfold offR at c; omega)
    have := h'.gt
    rw [crs_anti, ← ek, e] at this
    omega
theorem ofS_rot {v : Pt} {k : Nat} (h : OfS v k) : OfS (rotL v) ((k + 16) % 64) := by
  have e1 : rayP ((k + 16) % 64) = rotL (rayP k) := by rw [← ray_mod, ray_16]
  have e2 : rayP ((k + 16) % 64 + 1) = rotL (rayP (k + 1)) := by rw [ray_add, show k + 16 + 1 = k + 1 + 16 by omega, ray_16]
  exact ⟨Nat.mod_lt _ (by decide), by rw [e1, crs_rot]; exact h.ge, by rw [e2, crs_rot]; exact h.gt⟩
def onP (v : Pt) (k : Nat) : Bool := decide (crs (rayP k) v = 0)
theorem onP_rot (v : Pt) (k : Nat) : onP (rotL v) ((k + 16) % 64) = onP v k := by
  unfold onP
  rw [← ray_mod, ray_16, crs_rot]
/-- What the program says of a vector between two rays. -/
def btwP (k a n : Nat) (on : Bool) : Bool := decide (offR k a < n) || (decide (offR k a = n) && on)
def rawP (a n : Nat) (v : Pt) : Bool := if n = 0 then decide (crs (rayP a) v = 0) && decide (0 < dot2 (rayP a) v) else decide (0 ≤ crs (rayP a) v) && decide (0 ≤ crs v (rayP (a + n)))
theorem raw_is {v : Pt} {k a n : Nat} (h : OfS v k) (ha : a < 64) (hn : n ≤ 31) : rawP a n v = btwP k a n (onP v k) := by
  unfold rawP btwP onP
  rw [Bool.eq_iff_iff]
  split
  · rename_i e
    subst e
    simp only [Bool.and_eq_true, Bool.or_eq_true, decide_eq_true_eq]
    rw [on_iff h ha]
    omega
  · simp only [Bool.and_eq_true, Bool.or_eq_true, decide_eq_true_eq]
    rw [btw_iff h ha (by omega) hn]
end Go.Proofs.YtlppfikkgcfaoaaGreat

/- The verification-condition framework, part S: a call that is walked where it stands, in the caller's own state. -/
namespace Go.V
open Go Go.RowKit
variable {P : Program}

/-- The arguments in their slots. -/
def argSV : Nat → List SV → List (Nat × SV)
  | _, [] => []
  | n, s :: r => (n, s) :: argSV (n + 1) r
theorem argSV_look : ∀ (l : List SV) (n d : Nat) (s : SV), look (argSV n l) d = some s → n ≤ d ∧ d < n + l.length ∧ l[d - n]? = some s
  | [], n, d, s, h => by cases h
  | v :: r, n, d, s, h => by
    simp only [argSV, look_cons] at h
    split at h
    · rename_i hd
      subst hd
      cases h
      exact ⟨Nat.le_refl _, by simp, by simp⟩
    · rename_i hd
      obtain ⟨h1, h2, h3⟩ := argSV_look r (n + 1) d s h
      refine ⟨by omega, by simp; omega, ?_⟩
      have : d - n = (d - (n + 1)) + 1 := by omega
      rw [this, List.getElem?_cons_succ]
      exact h3
/-- Ghosts that hold what the caller's slots hold. -/
def ghs (val : Nat → Value) : Nat → List (Nat × SV) → List (Nat × Option OE) → List (Nat × Option OE)
  | _, [], ow => ow
  | n, (d, s) :: r, ow => (n, some (.gh d (val d) s)) :: ghs val (n + 1) r ow
theorem ghs_look (val : Nat → Value) : ∀ (l : List (Nat × SV)) (n : Nat) (ow : List (Nat × Option OE)) (i : Nat) (e : Option OE), look (ghs val n l ow) i = some e →
    (n ≤ i ∧ i < n + l.length ∧ ∃ d s, (d, s) ∈ l ∧ e = some (.gh d (val d) s)) ∨ look ow i = some e
  | [], n, ow, i, e, h => .inr h
  | (d, s) :: r, n, ow, i, e, h => by
    simp only [ghs, look_cons] at h
    split at h
    · rename_i hi
      subst hi
      cases h
      exact .inl ⟨Nat.le_refl _, by simp, d, s, by simp, rfl⟩
    · rcases ghs_look val r (n + 1) ow i e h with ⟨h1, h2, d', s', h3, h4⟩ | h
      · exact .inl ⟨by omega, by simp; omega, d', s', List.mem_cons_of_mem _ h3, h4⟩
      · exact .inr h
/-- What the ghosts hold, back in the caller's slots. -/
def rst (st st' : St) (val : Nat → Value) (pl : List (Nat × SV)) : List (Nat × Option OE) → (List (Nat × SV) → Prop) → Prop
  | [], k => k pl
  | (i, some (.gh _ _ _)) :: r, k => match st'.own i with
    | some (.gh d v s) => match look st.sl d with
      | some _ => VFact (v = val d) (rst st st' val pl r fun sl => k ((d, s) :: sl))
      | none => rst st st' val pl r k
    | _ => rst st st' val pl r k
  | _ :: r, k => rst st st' val pl r k
theorem rst_spec {st st' : St} {val : Nat → Value} {pl : List (Nat × SV)} : ∀ {l : List (Nat × Option OE)} {k : List (Nat × SV) → Prop}, rst st st' val pl l k →
    ∃ sl, k sl ∧ ∀ d s, (d, s) ∈ sl → (d, s) ∈ pl ∨ (∃ s0, look st.sl d = some s0) ∧ ∃ i, st'.own i = some (.gh d (val d) s)
  | [], k, h => ⟨pl, h, fun d s hd => .inl hd⟩
  | (i, none) :: r, k, h => rst_spec (l := r) h
  | (i, some (.box t cs)) :: r, k, h => rst_spec (l := r) h
  | (i, some (.row E sz n xs)) :: r, k, h => rst_spec (l := r) h
  | (i, some (.vw _ _ _ _)) :: r, k, h => rst_spec (l := r) h
  | (i, some (.gh d0 v0 s0)) :: r, k, h => by
    simp only [rst] at h
    split at h
    · rename_i d v s hi
      split at h
      · rename_i s1 hs1
        cases h with
        | mk hv hk =>
          obtain ⟨sl, h1, h2⟩ := rst_spec (l := r) hk
          refine ⟨_, h1, ?_⟩
          intro d' s' hm
          rcases List.mem_cons.1 hm with he | hm
          · cases he
            exact .inr ⟨⟨_, hs1⟩, i, by rw [hi, hv]⟩
          · exact h2 d' s' hm
      · exact rst_spec (l := r) h
    · exact rst_spec (l := r) h

/-- What a call that is walked hands on. -/
def finK (st st' : St) (val : Nat → Value) (pl : List (Nat × SV)) (s : SV) (K : SV → St → Prop) : Prop :=
  match st, st' with
  | ⟨sl, ow, nx, M, nt, G⟩, ⟨sl', ow', nx', M', nt', ⟨m, Y, f⟩⟩ => VFact (M' = M) (VFact (∀ b, m b = none) (rst ⟨sl, ow, nx, M, nt, G⟩ ⟨sl', ow', nx', M', nt', ⟨m, Y, f⟩⟩ val pl ow' fun sl2 => K s ⟨sl2, ow', nx', M, nt, G⟩))
def finV (C : VX) (fn : Func) (st : St) (val : Nat → Value) (pl : List (Nat × SV)) (K : SV → St → Prop) (e : Ex) (st' : St) : Prop :=
  match e with
  | .exit _ => VStuck 180
  | _ => match resSV C st' fn.results.toList with
    | some [] => finK st st' val pl (.v (.tuple #[])) K
    | some [s] => finK st st' val pl s K
    | _ => VStuck 181
theorem finK_iff {st st' : St} {val : Nat → Value} {pl : List (Nat × SV)} {s : SV} {K : SV → St → Prop} (h : finK st st' val pl s K) :
    st'.M = st.M ∧ (∀ b, st'.G.m b = none) ∧ rst st st' val pl st'.ow fun sl2 => K s ⟨sl2, st'.ow, st'.nx, st.M, st.nt, st.G⟩ := by
  obtain ⟨sl, ow, nx, M, nt, G⟩ := st
  obtain ⟨sl', ow', nx', M', nt', ⟨m, Y, f⟩⟩ := st'
  cases h with
  | mk h1 h2 =>
    cases h2 with
    | mk h2 h3 => exact ⟨h1, h2, h3⟩

/-- The caller's slots that are to be known behind the call. -/
def subSl (st : St) : List (Nat × SV) → Prop
  | [] => True
  | (d, s) :: r => look st.sl d = some s ∧ subSl st r
theorem subSl_mem {st : St} : ∀ {l : List (Nat × SV)}, subSl st l → ∀ {d s}, (d, s) ∈ l → look st.sl d = some s
  | [], _, _, _, h => by cases h
  | (_, _) :: l, ⟨h1, h2⟩, d, s, h => by
    rcases List.mem_cons.1 h with he | h
    · cases he; exact h1
    · exact subSl_mem h2 h
/-- Plain slots. -/
def plSl : List (Nat × Value) → List (Nat × SV)
  | [] => []
  | (d, x) :: r => (d, .v x) :: plSl r
theorem plSl_mem : ∀ {l : List (Nat × Value)} {d : Nat} {s : SV}, (d, s) ∈ plSl l → ∃ x, s = .v x
  | [], _, _, h => by cases h
  | (_, x) :: l, d, s, h => by
    rcases List.mem_cons.1 h with he | h
    · cases he; exact ⟨x, rfl⟩
    · exact plSl_mem h

open Classical in
/-- A call, walked where it stands. -/
theorem VCall.inline {C : VX} (hC : VXOK P C) {f : Nat} {fn : Func} {c : Code} (hf : P.funcs[f]? = some fn) (hb : fn.body = some c) (hname : (fn.name == "runtime.NumGoroutine") = false)
    {st : St} {args : List SV} {K : SV → St → Prop} (hnt : Nat.ble args.length fn.ntmps = true) (slots : List (Nat × SV)) (pls : List (Nat × Value)) (hs1 : subSl st slots) (hs2 : subSl st (plSl pls))
    (h : ∀ (val : Nat → Value) (f0 : Mem), vc C P c ⟨argSV 0 args, ghs val st.nx slots st.ow, st.nx + slots.length, st.M, fn.ntmps, ⟨fun _ => none, none, f0⟩⟩ (finV C fn st val (plSl pls) K)) :
    VCall P f args st K := by
  refine ⟨Go.Proofs.enters_of hf hname hb, fun n₀ w M₀ ρ W hS hsa hss => ?_⟩
  refine (callsIn_wide (n := 100)).1 (callsIn_of_wp_marks hf hb trivial ?_ rfl)
  have hle := Nat.le_of_ble_eq_true hnt
  obtain ⟨val, hval⟩ : ∃ val : Nat → Value, val = fun d => match look st.sl d with | some s => s.den ρ | none => undef := ⟨_, rfl⟩
  obtain ⟨f0, hf0⟩ : ∃ f0 : Mem, f0 = fun b => match st.G.m b with | some o => some o | none => st.G.f b := ⟨_, rfl⟩
  obtain ⟨ρ0, hρ0⟩ : ∃ ρ0 : Env, ρ0 = fun i => if i < st.nx then ρ i else .bool true := ⟨_, rfl⟩
  have hag : Agree st.nx ρ ρ0 := fun i hi => by rw [hρ0]; simp [hi]
  have hf0s : ∀ b o, f0 b = some o → W.heap[b]? = some o ∧ ∀ i e, st.own i = some e → ob (ρ i) ≠ some b := by
    intro b o hb
    rw [hf0] at hb
    simp only at hb
    split at hb
    · rename_i o' hm
      cases hb
      obtain ⟨p1, p2, p3⟩ := hS.pin b o hm
      refine ⟨p2, fun i e hi he => ?_⟩
      obtain ⟨_, _, c', t, fr, hh⟩ := (hS.own i e hi).2.2.lt b he
      rw [hh] at p2; cases p2; cases p1
    · exact hS.fpin b o hb
  obtain ⟨T, hT⟩ : ∃ T : St, T = ⟨argSV 0 args, ghs val st.nx slots st.ow, st.nx + slots.length, st.M, fn.ntmps, ⟨fun _ => none, none, f0⟩⟩ := ⟨_, rfl⟩
  have hvc := h val f0
  rw [← hT] at hvc
  -- the entries of the start: the caller's, and the ghosts
  have hown0 : ∀ i e, T.own i = some e → (i < st.nx ∧ st.own i = some e) ∨ (st.nx ≤ i ∧ i < st.nx + slots.length ∧ ∃ d s, (d, s) ∈ slots ∧ e = .gh d (val d) s) := by
    intro i e hi
    rw [hT] at hi
    unfold St.own at hi
    split at hi
    · rename_i e' hl
      cases hi
      rcases ghs_look val slots st.nx st.ow i _ hl with ⟨h1, h2, d, s, h3, h4⟩ | hl
      · cases h4
        exact .inr ⟨h1, h2, d, s, h3, rfl⟩
      · have : st.own i = some e := by unfold St.own; rw [hl]
        exact .inl ⟨(hS.own i e this).1, this⟩
    · cases hi
  have hs0 : Sat n₀ w M₀ ρ0 T { tmps := (args.map (SV.den ρ)).toArray ++ Array.replicate (fn.ntmps - (args.map (SV.den ρ)).toArray.size) undef, defers := [] } W := by
    refine ⟨⟨hS.below, hS.size, by rw [hT]; exact hS.mem, ?_, ?_, ?_, ?_, by rw [hT]; exact hS.mlow, ?_⟩, by rw [hT]; simp; omega, ?_, by rw [hT]; trivial⟩
    · intro i e hi
      have hTnx : T.nx = st.nx + slots.length := by rw [hT]
      rw [hTnx]
      rcases hown0 i e hi with ⟨h1, h2⟩ | ⟨h1, h2, d, s, h3, rfl⟩
      · obtain ⟨g1, g2, g3⟩ := hS.own i e h2
        exact ⟨by omega, OE.sc_mono (by omega) g2, g3.keep hag g1 g2 fun _ _ => rfl⟩
      · have hl := subSl_mem hs1 h3
        have hsc := hss d s hl
        refine ⟨h2, SV.sc_mono (by omega) hsc, ?_, ?_⟩
        · rw [hρ0]; simp [Nat.not_lt.2 h1, ob]
        · rw [SV.den_agree hag hsc, hval]; simp only [hl]
    · intro i j ei ej hi hj hij b hbi hbj
      rcases hown0 i ei hi with ⟨h1, h2⟩ | ⟨h1, h2, d, s, h3, rfl⟩
      · rcases hown0 j ej hj with ⟨k1, k2⟩ | ⟨k1, k2, d, s, k3, rfl⟩
        · rw [hag i h1] at hbi
          rw [hag j k1] at hbj
          exact hS.sep i j ei ej h2 k2 hij b hbi hbj
        · rw [hρ0] at hbj; simp [Nat.not_lt.2 k1, ob] at hbj
      · rw [hρ0] at hbi; simp [Nat.not_lt.2 h1, ob] at hbi
    · intro i e b hi hbi
      rcases hown0 i e hi with ⟨h1, h2⟩ | ⟨h1, h2, d, s, h3, rfl⟩
      · rw [hag i h1] at hbi
        rw [hT]
        exact hS.msep i e b h2 hbi
      · rw [hρ0] at hbi; simp [Nat.not_lt.2 h1, ob] at hbi
    · intro b o hbo
      rw [hT] at hbo; cases hbo
    · intro b o hbo
      rw [hT] at hbo
      obtain ⟨q1, q2⟩ := hf0s b o hbo
      refine ⟨q1, fun i e hi he => ?_⟩
      rcases hown0 i e hi with ⟨h1, h2⟩ | ⟨h1, h2, d, s, h3, rfl⟩
      · rw [hag i h1] at he
        exact q2 i e h2 he
      · rw [hρ0] at he; simp [Nat.not_lt.2 h1, ob] at he
    · intro d s hd
      rw [hT] at hd
      obtain ⟨h1, h2, h3⟩ := argSV_look args 0 d s hd
      have hmem : s ∈ args := List.mem_of_getElem? h3
      have hsc := hsa s hmem
      refine ⟨by rw [hT]; show d < fn.ntmps; omega, by rw [hT]; exact SV.sc_mono (Nat.le_add_right _ _) hsc, ?_⟩
      simp only [Nat.sub_zero] at h3
      rw [Array.getElem?_append_left (by simp; omega), SV.den_agree hag hsc]
      simp [h3]
  have hY0 : T.G.Y = none := by rw [hT]
  have := vc_sound (r := none) (n := 100) hC (κ := fun Y B => Y = none ∧ B = ⟨n₀, w, M₀⟩) (fun l args rest B M W hκ => by cases hκ.1) (fx := fun _ => False) (tm := #[]) (B := ⟨n₀, w, M₀⟩) c hvc (fun l hl => by cases hl) ⟨hY0, rfl⟩ hs0 (wr_false c) (fun d hd => hd.elim)
  refine wpIn_mono this ?_
  rintro e a' W' ⟨⟨ex, he, B, ρ', st', ⟨_, rfl⟩, h1, h2, h3⟩, _⟩
  have hf' : st'.G.f = f0 := by rw [h2.2, hT]
  have main : (e = .normal ∨ e = .ret) → LeavesInM (Fw none) 100 P fn a'.tmps (fun e W' => ∃ s st' ρ', e = .returned (s.den ρ') ∧ s.sc st'.nx ∧
      SatH n₀ w M₀ ρ' st' W' ∧ (∀ d s', look st'.sl d = some s' → s'.sc st'.nx ∧ ∃ s0, look st.sl d = some s0 ∧ s'.den ρ' = s0.den ρ) ∧ st'.nt = st.nt ∧ st'.G = st.G ∧ K s st') a'.defers .returning W' := by
    intro hcase
    have hsl : ∀ d s, look st'.sl d = some s → s.sc st'.nx ∧ a'.tmps[d]? = some (s.den ρ') := fun d s hd => ⟨(h1.sl d s hd).2.1, (h1.sl d s hd).2.2⟩
    have hend : ∀ (rs : List SV) (s : SV), resSV C st' fn.results.toList = some rs → ret (rs.map (SV.den ρ')) = s.den ρ' → (s.sc st'.nx) → finK st st' val (plSl pls) s K → LeavesInM (Fw none) 100 P fn a'.tmps (fun e W' => ∃ s st' ρ', e = .returned (s.den ρ') ∧ s.sc st'.nx ∧
        SatH n₀ w M₀ ρ' st' W' ∧ (∀ d s', look st'.sl d = some s' → s'.sc st'.nx ∧ ∃ s0, look st.sl d = some s0 ∧ s'.den ρ' = s0.den ρ) ∧ st'.nt = st.nt ∧ st'.G = st.G ∧ K s st') a'.defers .returning W' := by
      intro rs s hrs hret hsc hfin
      obtain ⟨hM, hm, hk⟩ := finK_iff hfin
      obtain ⟨sl2, hK, hsl2⟩ := rst_spec hk
      have hds : a'.defers = [] := marks_nil h1.marks hm
      rw [hds]
      refine ⟨s.den ρ', ?_, s, ⟨sl2, st'.ow, st'.nx, st.M, st.nt, st.G⟩, ρ', rfl, hsc, ?_, ?_, rfl, rfl, hK⟩
      · have hr := (results_run (tmps := a'.tmps) hC h1.h hsl fn.results.toList hrs).1
        have := results_ret fn a'.tmps P _ W' hr
        rw [hret] at this
        exact this
      · refine ⟨h1.h.below, h1.h.size, by rw [← hM]; exact h1.h.mem, h1.h.own, h1.h.sep, by rw [← hM]; exact h1.h.msep, ?_, by rw [← hM]; exact h1.h.mlow, ?_⟩
        · intro b o hbo
          obtain ⟨p1, p2, p3⟩ := hS.pin b o hbo
          have hfb : st'.G.f b = some o := by
            have hbo' : st.G.m b = some o := hbo
            rw [hf', hf0]; simp only [hbo']
          exact ⟨p1, (h1.h.fpin b o hfb).1, p3⟩
        · intro b o hbo
          have hbo' : st.G.f b = some o := hbo
          have hfb : st'.G.f b = some o := by
            rw [hf', hf0]; simp only
            split
            · rename_i o' hm'
              have q1 := (hS.pin b o' hm').2.1
              have q2 := (hS.fpin b o hbo').1
              rw [q1] at q2; cases q2; rfl
            · exact hbo'
          exact h1.h.fpin b o hfb
      · intro d s' hd
        rcases hsl2 d s' (look_mem hd) with hp | ⟨⟨s0, hs0'⟩, i, hi⟩
        · have hl := subSl_mem hs2 hp
          obtain ⟨x, rfl⟩ := plSl_mem hp
          exact ⟨trivial, _, hl, rfl⟩
        · obtain ⟨_, g2, g3⟩ := h1.h.own i _ hi
          refine ⟨g2, s0, hs0', ?_⟩
          rw [g3.2, hval]; simp only [hs0']
    have h3' : (match resSV C st' fn.results.toList with
      | some [] => finK st st' val (plSl pls) (.v (.tuple #[])) K
      | some [s] => finK st st' val (plSl pls) s K
      | _ => VStuck 181) := by
      rcases hcase with rfl | rfl <;> cases he <;> exact h3
    split at h3'
    · rename_i hrs
      exact hend [] (.v (.tuple #[])) hrs rfl trivial h3'
    · rename_i s hrs
      exact hend [s] s hrs rfl ((results_run (tmps := a'.tmps) hC h1.h hsl fn.results.toList hrs).2 s (by simp)) h3'
    · cases h3'
  cases e with
  | normal => exact main (.inl rfl)
  | ret => exact main (.inr rfl)
  | exit i => cases he; cases h3
  | goto => cases he
  | panic => cases he
  | outgrown => cases he

/-- What is known of the heap, the ids renamed. -/
theorem SatH.ren {n₀ : Nat} {w : World} {M₀ : Mem} {ρ : Env} {st st' : St} {W : World} (h : SatH n₀ w M₀ ρ st W) (r : Nat → Nat) (how : owOK st r st'.nx st'.ow) (hinj : injOK r st'.ow) (hM : st.M = st'.M) (hG : st.G = st'.G) :
    SatH n₀ w M₀ (fun i => ρ (r i)) st' W := by
  let T' : St := ⟨[], st'.ow, st'.nx, st'.M, 0, st.G⟩
  have hwk : SatH n₀ w M₀ (fun i => ρ (r i)) T' W := by
    have hent : ∀ id e, st'.own id = some e → (id, some e) ∈ st'.ow := fun id e he => by
      unfold St.own at he
      split at he
      · rename_i e' hl; cases he; exact look_mem hl
      · cases he
    have hst : ∀ id e, st'.own id = some e → id < st'.nx ∧ e.sc st'.nx ∧ ∃ e0, st.own (r id) = some e0 ∧ (∀ W, OwnOK n₀ ρ W (r id) e0 → OwnOK n₀ (fun i => ρ (r i)) W id e) := fun id e he => by
      obtain ⟨h1, h2⟩ := owOK_mem how (hent id e he)
      cases e with
      | box t cs =>
        simp only [entOK] at h2
        split at h2
        · rename_i t' cs' ho
          obtain ⟨rfl, hc⟩ := h2
          obtain ⟨i1, i2⟩ := cellsOK_spec hc
          refine ⟨h1, i2, _, ho, ?_⟩
          rintro W ⟨B, b1, b2, b3⟩
          refine ⟨B, b1, b2, ?_⟩
          rw [b3, i1, List.map_map]
          have : SV.den ρ ∘ SV.ren r = SV.den (fun i => ρ (r i)) := funext (SV.ren_den ρ r)
          rw [this]
        · exact h2.elim
      | row E sz n xs =>
        simp only [entOK] at h2
        split at h2
        · rename_i E' sz' n' xs' ho
          obtain ⟨rfl, rfl, rfl, rfl⟩ := h2
          exact ⟨h1, trivial, _, ho, fun W hW => hW⟩
        · exact h2.elim
      | gh t v s =>
        simp only [entOK] at h2
        split at h2
        · rename_i t' v' s' ho
          obtain ⟨⟨rfl, rfl⟩, rfl, hs⟩ := h2
          exact ⟨h1, SVB_spec hs, _, ho, fun W hW => ⟨hW.1, by rw [← SV.ren_den]; exact hW.2⟩⟩
        · exact h2.elim
      | vw sz b k n =>
        simp only [entOK] at h2
        split at h2
        · rename_i sz' b' k' n' ho
          obtain ⟨⟨rfl, rfl⟩, ⟨rfl, rfl⟩, hb⟩ := h2
          exact ⟨h1, Nat.le_of_ble_eq_true hb, _, ho, fun W hW => hW⟩
        · exact h2.elim
    have hin : ∀ id e, st'.own id = some e → id ∈ st'.ow.map (·.1) := fun id e he => List.mem_map.2 ⟨_, hent id e he, rfl⟩
    refine ⟨h.below, h.size, fun b o hb => h.mem b o (by rw [hM]; exact hb), ?_, ?_, ?_, ?_, fun b hb => by show st'.M b = _; rw [← hM]; exact h.mlow b hb, ?_⟩
    · intro id e he
      obtain ⟨h1, h2, e0, h3, h4⟩ := hst id e he
      exact ⟨h1, h2, h4 W (h.own _ _ h3).2.2⟩
    · intro i j ei ej hi hj hij b
      obtain ⟨_, _, e1, h3, _⟩ := hst i ei hi
      obtain ⟨_, _, e2, h4, _⟩ := hst j ej hj
      exact h.sep (r i) (r j) e1 e2 h3 h4 (injOK_spec hinj i j (hin i ei hi) (hin j ej hj) hij) b
    · intro i e b hi hb
      obtain ⟨_, _, e1, h3, _⟩ := hst i e hi
      have := h.msep (r i) e1 b h3 hb
      show st'.M b = none
      rw [← hM]; exact this
    · intro b o hb
      obtain ⟨h1, h2, h3⟩ := h.pin b o hb
      refine ⟨h1, h2, ?_⟩
      show st'.M b = none
      rw [← hM]; exact h3
    · intro b o hb
      obtain ⟨h1, h2⟩ := h.fpin b o hb
      refine ⟨h1, fun i e hi => ?_⟩
      obtain ⟨_, _, e0, h3, _⟩ := hst i e hi
      exact h2 (r i) e0 h3
  exact hwk.same rfl rfl rfl hG.symm

/-- A call, its state looked at in other words; and what it leaves, in other words. -/
theorem VCall.wk {st st1 : St} {f : Nat} {args args1 : List SV} {K : SV → St → Prop} (r : Nat → Nat) (ha : args = args1.map (SV.ren r)) (hab : args1.all (SVB st1.nx) = true) (hsl : slOK st r st1.nx st1.sl) (how : owOK st r st1.nx st1.ow) (hinj : injOK r st1.ow) (hM : st.M = st1.M) (hnt : st.nt = st1.nt) (hG : st.G = st1.G)
    (h : VCall P f args1 st1 K) : VCall P f args st K := by
  refine ⟨h.ent, fun n₀ w M₀ ρ W hS hsa hss => ?_⟩
  have h1 := hS.ren r how hinj hM hG
  have hargs : args.map (SV.den ρ) = args1.map (SV.den fun i => ρ (r i)) := by
    rw [ha, List.map_map]
    exact List.map_congr_left fun s _ => SV.ren_den ρ r s
  rw [hargs]
  have hsl1 : ∀ d s, look st1.sl d = some s → look st.sl d = some (s.ren r) ∧ s.sc st1.nx := fun d s hd => slOK_mem hsl (look_mem hd)
  refine (h.run n₀ w M₀ _ W h1 (fun s hs => SVB_spec (List.all_eq_true.1 hab s hs)) (fun d s hd => (hsl1 d s hd).2)).mono ?_
  rintro e W' ⟨s, st', ρ', rfl, g4, g5, g7, g8, g10, g9⟩
  refine ⟨s, st', ρ', rfl, g4, g5, ?_, by rw [g8, hnt], by rw [g10, hG], g9⟩
  intro d s' hd
  obtain ⟨q1, s0, q2, q3⟩ := g7 d s' hd
  exact ⟨q1, _, (hsl1 d s0 q2).1, by rw [q3, SV.ren_den]⟩
/-- What a call leaves, in other words. -/
structure Left (st' : St) (s : SV) (st2 : St) (s2 : SV) : Prop where
  w : ∃ r : Nat → Nat, s = s2.ren r ∧ SVB st2.nx s2 = true ∧ slOK st' r st2.nx st2.sl ∧ owOK st' r st2.nx st2.ow ∧ injOK r st2.ow
  m : st'.M = st2.M
  nt : st'.nt = st2.nt
  g : st'.G = st2.G
theorem VCall.post {st : St} {f : Nat} {args : List SV} {K : SV → St → Prop} (h : VCall P f args st fun s st' => ∃ s2 st2, Left st' s st2 s2 ∧ K s2 st2) : VCall P f args st K := by
  refine ⟨h.ent, fun n₀ w M₀ ρ W hS hsa hss => ?_⟩
  refine (h.run n₀ w M₀ _ W hS hsa hss).mono ?_
  rintro e W' ⟨s, st', ρ', rfl, g4, g5, g7, g8, g10, s2, st2, ⟨⟨r, h1, h2, h3, h4, h5⟩, hm, hnt, hg⟩, hK⟩
  refine ⟨s2, st2, fun i => ρ' (r i), by rw [h1, SV.ren_den], SVB_spec h2, g5.ren r h4 h5 hm hg, ?_, by rw [← hnt, g8], by rw [← hg, g10], hK⟩
  intro d s' hd
  obtain ⟨q1, q2⟩ := slOK_mem h3 (look_mem hd)
  obtain ⟨_, s0, k2, k3⟩ := g7 d _ q1
  exact ⟨q2, s0, k2, by rw [← k3, SV.ren_den]⟩
end Go.V

/- The verification-condition framework, part T: a region that draws its order, more than one of whose operations make memory, in any order. -/
namespace Go.V
open Go Go.RowKit
variable {P : Program}

/-- It has not been taken, and whom it waits for has been. -/
def rdyB (ops : List Oper) (D : List Nat) (i : Nat) : Bool :=
  !D.any (Nat.beq i) && match ops[i]? with | some o => (bindsOn o).all (fun k => D.any (Nat.beq k)) | none => false
def nextV (ops : List Oper) (vs D : List Nat) : Option Nat := vs.find? (rdyB ops D)
def cands (ops : List Oper) (D : List Nat) : List Nat := (List.range ops.length).filter (rdyB ops D)
/-- Two operations of which neither waits for the other are apart. -/
def pairS (ops : Array Oper) (tab : List Nat) (i j : Nat) : Bool :=
  match ops[i]?, ops[j]? with
  | some o, some o' => dstNe o o' && (anc tab j i || anc tab i j || (!dstIn (o'.looksAt ops) o && !dstIn (o.looksAt ops) o'))
  | _, _ => false
def statOK (ops : Array Oper) (vs tab : List Nat) : Bool :=
  tabOK ops.toList tab && (ops.toList.all plainOp) && (vs.all fun i => (List.range ops.size).all fun j => Nat.beq i j || pairS ops tab i j)
theorem any_beq {D : List Nat} {i : Nat} : D.any (Nat.beq i) = true ↔ i ∈ D := by
  rw [List.any_eq_true]
  constructor
  · rintro ⟨x, hx, h⟩
    rw [Nat.eq_of_beq_eq_true h]; exact hx
  · exact fun h => ⟨i, h, Nat.beq_refl i⟩
theorem rdyB_iff {ops : Array Oper} {D : List Nat} {i : Nat} : rdyB ops.toList D i = true ↔ i ∉ D ∧ ∃ o, ops[i]? = some o ∧ ∀ k ∈ bindsOn o, k ∈ D := by
  unfold rdyB
  rw [Bool.and_eq_true, Bool.not_eq_true', ← Bool.not_eq_true, any_beq]
  constructor
  · rintro ⟨h1, h2⟩
    refine ⟨h1, ?_⟩
    split at h2
    · rename_i o ho
      refine ⟨o, by simpa using ho, fun k hk => any_beq.1 (List.all_eq_true.1 h2 k hk)⟩
    · cases h2
  · rintro ⟨h1, o, ho, hk⟩
    refine ⟨h1, ?_⟩
    have ho' : ops.toList[i]? = some o := by simpa using ho
    rw [ho']
    exact List.all_eq_true.2 fun k hk' => any_beq.2 (hk k hk')
/-- The operations, what yields a value as soon as it can; of the others any that can. -/
def eagT (R : WR) (F : Fence) (n : Nat) (P : Program) (ops : Array Oper) (vs : List Nat) (Q : Exit → Act → World → Prop) : Nat → List Nat → Act → World → Prop
  | 0, _, a, w => Q .normal a w
  | f + 1, D, a, w => match nextV ops.toList vs D with
    | some i => ∃ o, ops[i]? = some o ∧ ∃ v, (∀ W, R.r w W → Yv P ops o a v W) ∧ (∀ W g, R.r w W → o.about P W a.eval = some g → F.fn g) ∧ eagT R F n P ops vs Q f (i :: D) (a.put o.dst v) w
    | none => ∀ i ∈ cands ops.toList D, wpOpIn F n P ops Q i (fun a' w' => R.r w w' ∧ eagT R F n P ops vs Q f (i :: D) a' w') a w
theorem statOK_spec {ops : Array Oper} {vs tab : List Nat} (h : statOK ops vs tab = true) : tabOK ops.toList tab = true ∧ (∀ (i : Nat) (o : Oper), ops[i]? = some o → plainOp o = true) ∧ ∀ i ∈ vs, ∀ j, j < ops.size → i ≠ j → pairS ops tab i j = true := by
  simp only [statOK, Bool.and_eq_true, List.all_eq_true, List.mem_range, Bool.or_eq_true] at h
  obtain ⟨⟨h1, h2⟩, h3⟩ := h
  refine ⟨h1, fun i o ho => h2 o ?_, fun i hi j hj hne => ?_⟩
  · exact List.mem_of_getElem? (by simpa using ho : ops.toList[i]? = some o)
  · rcases h3 i hi j hj with h | h
    · exact absurd (Nat.eq_of_beq_eq_true h) hne
    · exact h
theorem pairS_pair {ops : Array Oper} {tab : List Nat} {i j : Nat} (h : pairS ops tab i j = true) (hn : anc tab i j = false) : pairOK ops tab (i, 0) (j, 0) = true := by
  unfold pairS at h
  unfold pairOK
  split at h
  · rename_i o o' h1 h2
    simp only [h1, h2]
    rw [hn, Bool.or_false] at h
    simpa using h
  · cases h
theorem all_lt_len : ∀ (n : Nat) (D : List Nat), (∀ i, i < n → i ∈ D) → n ≤ D.length
  | 0, _, _ => Nat.zero_le _
  | n + 1, D, h => by
    have hn := h n (Nat.lt_succ_self n)
    have ih := all_lt_len n (D.erase n) fun i hi => (List.mem_erase_of_ne (by omega)).2 (h i (by omega))
    rw [List.length_erase_of_mem hn] at ih
    have := List.length_pos_of_mem hn
    omega
theorem nodup_le_len : ∀ (n : Nat) (E : List Nat), (∀ x ∈ E, x < n) → E.Nodup → E.length ≤ n
  | 0, E, hE, _ => by
    cases E with
    | nil => exact Nat.le_refl _
    | cons x E => have := hE x List.mem_cons_self; omega
  | n + 1, E, hE, hn => by
    by_cases hm : n ∈ E
    · have := nodup_le_len n (E.erase n) (fun x hx => by
        have h1 := hE x (List.mem_of_mem_erase hx)
        have h2 := (hn.mem_erase_iff.1 hx).1
        omega) (hn.erase n)
      rw [List.length_erase_of_mem hm] at this
      omega
    · have := nodup_le_len n E (fun x hx => by
        have h1 := hE x hx
        have : x ≠ n := fun e => hm (e ▸ hx)
        omega) hn
      omega
theorem bindsOn_lt {ops : Array Oper} {tab : List Nat} (h : tabOK ops.toList tab = true) {i : Nat} {o : Oper} (ho : ops[i]? = some o) {k : Nat} (hk : k ∈ bindsOn o) : k < i := by
  have ho' : ops.toList[i]? = some o := by simpa using ho
  have hi : i < ops.toList.length := (List.getElem?_eq_some_iff.1 ho').1
  simp only [tabOK, List.all_eq_true, List.mem_range] at h
  have h1 := h i hi
  rw [ho'] at h1
  simp only [Bool.and_eq_true, List.all_eq_true] at h1
  exact Nat.le_of_ble_eq_true (h1.1 k hk)
/-- The state of such a region under way. -/
structure WayT (R : WR) (F : Fence) (n : Nat) (P : Program) (ops : Array Oper) (vs : List Nat) (Q : Exit → Act → World → Prop) (tab : List Nat) (us : List Nat) (listed : Array Bool) (a la : Act) (w : World) (pend : List PE) (D : List Nat) (f : Nat) : Prop where
  und : us.Nodup
  size : listed.size = ops.size
  uiff : ∀ i, i < ops.size → (listed.getD i true = false ↔ i ∈ us)
  ult : ∀ i ∈ us, i < ops.size
  dnd : D.Nodup
  len : D.length + f = ops.size
  dA : ∀ i, i < ops.size → i ∉ us → i ∈ D
  dP : ∀ i ∈ D, i ∈ us → ∃ p ∈ pend, p.i = i
  dlt : ∀ i ∈ D, i < ops.size
  punl : ∀ p ∈ pend, p.i ∈ us ∧ p.i ∈ D ∧ p.i ∈ vs
  pnd : (pend.map PE.i).Nodup
  closedD : ∀ i o, ops[i]? = some o → i ∈ D → ∀ k ∈ bindsOn o, k ∈ D
  closed : ∀ i o, ops[i]? = some o → listed.getD i false = true → ∀ k ∈ bindsOn o, listed.getD k false = true
  defers : a.defers = la.defers
  tsize : a.tmps.size = la.tmps.size
  agree : ∀ d, (∀ p ∈ pend, p.o.dst ≠ some d) → a.tmps[d]? = la.tmps[d]?
  inv : PInv R F P ops tab a la w pend
  rest : eagT R F n P ops vs Q f D la w
theorem way_anyT {R : WR} {F : Fence} {n : Nat} {ops : Array Oper} {Q : Exit → Act → World → Prop} {vs tab : List Nat} (hok : statOK ops vs tab = true) (hQ : ∀ c a w, ¬ Q (.panic c) a w) :
    ∀ (fuel : Nat) {us : List Nat} {listed : Array Bool} {a la : Act} {w : World} {pend : List PE} {D : List Nat} {f : Nat}, us.length = fuel → WayT R F n P ops vs Q tab us listed a la w pend D f → wpAnyIn F n P .any ops Q fuel listed a w := by
  obtain ⟨htab, hplain, hstat⟩ := statOK_spec hok
  have fin : ∀ {listed : Array Bool} {a la : Act} {w : World} {pend : List PE} {D : List Nat} {f : Nat}, WayT R F n P ops vs Q tab [] listed a la w pend D f → Q .normal a w := by
    intro listed a la w pend D f h
    have hp : pend = [] := by
      cases pend with
      | nil => rfl
      | cons p l => have := (h.punl p List.mem_cons_self).1; cases this
    subst hp
    have hf : f = 0 := by
      have := all_lt_len ops.size D fun i hi => h.dA i hi (fun hx => by cases hx)
      have := h.len
      omega
    subst hf
    have hal : a = la := by
      have h1 := h.defers
      have h2 : a.tmps = la.tmps := Array.ext_getElem? (fun d => h.agree d (fun p hp => by cases hp))
      cases a; cases la
      simp only at h1 h2
      subst h1; subst h2; rfl
    rw [hal]; exact h.rest
  -- something can come up: the least of those that are left
  have some_ready : ∀ {us : List Nat} {listed : Array Bool} {a la : Act} {w : World} {pend : List PE} {D : List Nat} {f : Nat}, WayT R F n P ops vs Q tab us listed a la w pend D f → Region.ready .any ops listed = [] → us = [] := by
    intro us listed a la w pend D f h hr
    cases hus : us with
    | nil => rfl
    | cons i0 us' =>
      exfalso
      obtain ⟨i, hi, hmin⟩ : ∃ i, i ∈ us ∧ ∀ k, k < i → k ∉ us := by
        obtain ⟨m, hm1, hm2⟩ := least_of (p := fun i => i ∈ us) i0 (by rw [hus]; exact List.mem_cons_self)
        exact ⟨m, hm1, fun k hk hku => by have := hm2 k hku; omega⟩
      have hlt := h.ult i hi
      have ho : ops[i]? = some ops[i] := Array.getElem?_eq_getElem hlt
      have : i ∈ Region.ready .any ops listed := ready_iff.2 ⟨hlt, (h.uiff i hlt).2 hi, _, ho, fun k hk => by
        have hki : k < i := bindsOn_lt htab ho hk
        have hnk := mt (h.uiff k (by omega)).1 (hmin k hki)
        rw [getD_tf (by rw [h.size]; omega)] at hnk
        simpa using hnk⟩
      rw [hr] at this; cases this
  intro fuel
  induction fuel with
  | zero =>
    intro us listed a la w pend D f hlen h
    have hus : us = [] := List.length_eq_zero_iff.1 hlen
    subst hus
    refine ⟨?_, fin h⟩
    cases hr : Region.ready .any ops listed with
    | nil => rfl
    | cons i l =>
      have hi : i ∈ Region.ready .any ops listed := by rw [hr]; exact List.mem_cons_self
      obtain ⟨h1, h2, _⟩ := ready_iff.1 hi
      have := (h.uiff i h1).1 h2
      cases this
  | succ fuel ih =>
    intro us listed a la w pend D f hlen h
    refine ⟨fun hr => ?_, fun i hi => ?_⟩
    · have := some_ready h hr
      subst this
      exact fin h
    · obtain ⟨hilt, hil, oi, hoi, hib⟩ := ready_iff.1 hi
      have hius : i ∈ us := (h.uiff i hilt).1 hil
      have hlen' : (us.erase i).length = fuel := by rw [List.length_erase_of_mem hius, hlen]; rfl
      have noanc : ∀ k, k ∈ us → anc tab i k = false := by
        intro k hk
        cases ha : anc tab i k with
        | false => rfl
        | true =>
          exfalso
          have := anc_done htab (Ls := fun k => listed.getD k false = true) h.closed i k oi hoi hib ha (fun k hk => by rw [← h.size]; exact getD_lt hk)
          have h2 := (h.uiff k (h.ult k hk)).2 hk
          rw [getD_tf (by rw [h.size]; exact h.ult k hk)] at h2
          rw [h2] at this; cases this
      have hsz' : (listed.setIfInBounds i true).size = ops.size := by simp [h.size]
      have huiff' : ∀ k, k < ops.size → ((listed.setIfInBounds i true).getD k true = false ↔ k ∈ us.erase i) := by
        intro k hk
        rw [getD_set (by rw [h.size]; exact hilt), h.und.mem_erase_iff]
        by_cases hik : i = k
        · subst hik; simp
        · rw [if_neg hik, h.uiff k hk]
          exact ⟨fun h1 => ⟨fun e => hik e.symm, h1⟩, fun h1 => h1.2⟩
      have hclosed' : ∀ j o, ops[j]? = some o → (listed.setIfInBounds i true).getD j false = true → ∀ k ∈ bindsOn o, (listed.setIfInBounds i true).getD k false = true := by
        intro j o hj hl k hk
        rw [getD_set (by rw [h.size]; exact hilt)] at hl ⊢
        split
        · rfl
        · split at hl
          · rename_i e; subst e
            rw [hoi] at hj; cases hj
            exact hib k hk
          · exact h.closed j o hj hl k hk
      have hpl : plainOp oi = true := hplain i oi hoi
      have hibus : ∀ k ∈ bindsOn oi, k < ops.size ∧ k ∉ us := fun k hk => by
        have h1 := hib k hk
        have hks : k < ops.size := by rw [← h.size]; exact getD_lt h1
        refine ⟨hks, fun hku => ?_⟩
        have h2 := (h.uiff k hks).2 hku
        rw [getD_tf (by rw [h.size]; exact hks)] at h2
        rw [h2] at h1; cases h1
      clear hi hil
      have hund' := h.und.erase i
      have hult' : ∀ k ∈ us.erase i, k < ops.size := fun k hk => h.ult k (List.mem_of_mem_erase hk)
      have hmem' : ∀ k ∈ us, k ≠ i → k ∈ us.erase i := fun k hk hne => (h.und.mem_erase_iff).2 ⟨hne, hk⟩
      have hne' : ∀ k ∈ us.erase i, k ≠ i := fun k hk => ((h.und.mem_erase_iff).1 hk).1
      -- one that was taken ahead
      have doP : ∀ {la : Act} {pend : List PE} {D : List Nat} {f : Nat}, WayT R F n P ops vs Q tab us listed a la w pend D f → (∃ p ∈ pend, p.i = i) → wpOpIn F n P ops Q i (wpAnyIn F n P .any ops Q fuel (listed.setIfInBounds i true)) a w := by
        rintro la pend D f h ⟨p, hp, hpi⟩
        obtain ⟨l', hpe, hl'⟩ := h.inv.get p hp
        have hpo : p.o = oi := by have := hpe.ho; rw [hpi, hoi] at this; exact (Option.some.inj this).symm
        have hsee : Sees ops oi a p.b := by
          intro d hd
          rw [← hpo] at hd
          rcases hpe.see d hd with ⟨q, hq, hqd, _⟩ | ⟨_, h4⟩
          · have hqp := hl' q hq
            have := pair_spec (p := (q.i, 0)) (q := (p.i, 0)) (h.inv.ho q hqp) hpe.ho (hpe.pair q hq)
            exact absurd hd ((this.2 (by rw [hpi]; exact noanc q.i (h.punl q hqp).1)).2.2.1 d hqd)
          · exact h4.symm
        have hval := h.inv.val p hp
        have next : wpAnyIn F n P .any ops Q fuel (listed.setIfInBounds i true) (a.put oi.dst p.v) w := by
          refine ih (us := us.erase i) (la := la) (pend := pend.filter fun q => !Nat.beq q.i i) (D := D) (f := f) hlen' ⟨hund', hsz', huiff', hult', h.dnd, h.len, ?_, ?_, h.dlt, ?_, ?_, h.closedD, hclosed', by rw [put_defers]; exact h.defers, by rw [put_size]; exact h.tsize, ?_, ?_, h.rest⟩
          · intro k hk hku
            by_cases e : k = i
            · subst e; rw [← hpi]; exact (h.punl p hp).2.1
            · exact h.dA k hk fun hx => hku (hmem' k hx e)
          · intro k hkD hku
            obtain ⟨q, hq, hqk⟩ := h.dP k hkD (List.mem_of_mem_erase hku)
            refine ⟨q, List.mem_filter.2 ⟨hq, ?_⟩, hqk⟩
            cases hb : Nat.beq q.i i with
            | false => rfl
            | true => exact absurd ((Nat.eq_of_beq_eq_true hb).symm.trans hqk).symm (hne' k hku)
          · intro q hq
            obtain ⟨hq1, hq2⟩ := List.mem_filter.1 hq
            exact ⟨hmem' q.i (h.punl q hq1).1 (fun he => by rw [he, Nat.beq_refl] at hq2; cases hq2), (h.punl q hq1).2⟩
          · exact List.Nodup.sublist (List.Sublist.map _ List.filter_sublist) h.pnd
          · intro d hd
            by_cases hdd : oi.dst = some d
            · rw [hdd, put_get, if_pos rfl, hval d (by rw [hpo]; exact hdd), h.tsize]
            · rw [put_other _ _ hdd]
              refine h.agree d fun q hq hqd => ?_
              by_cases hqi : q.i = i
              · have := h.inv.ho q hq
                rw [hqi, hoi] at this
                cases this
                exact hdd hqd
              · refine hd q (List.mem_filter.2 ⟨hq, ?_⟩) hqd
                cases hb : Nat.beq q.i i with
                | false => rfl
                | true => exact absurd (Nat.eq_of_beq_eq_true hb) hqi
          · have := PInv.exec (j := p) (tab := tab) hpe.ho h.tsize hval h.inv (fun q hq _ => by rw [hpi]; exact noanc q.i (h.punl q hq).1) h.pnd (.inl hp)
            rw [hpo, hpi] at this
            exact this
        have hyv := hpe.yv w hpe.bel
        have hab := fun f => hpe.ab w f hpe.bel
        rw [hpo] at hyv hab
        unfold wpOpIn
        simp only [hoi]
        rw [hsee.wanted]
        rcases hyv with ⟨hw, hrun⟩ | ⟨hw, hv⟩
        · rw [if_pos hw]
          unfold Oper.wpIn
          rw [hsee.about]
          refine ⟨hab, ?_⟩
          rw [Oper.semAt_plain _ _ _ (plain_defer hpl), hsee.exec hpl, hrun]
          exact next
        · rw [if_neg (by rw [hw]; exact Bool.false_ne_true)]
          rw [hsee.about]
          exact ⟨hab, by rw [← hv]; exact next⟩
      have main : ∀ (f : Nat) {la : Act} {pend : List PE} {D : List Nat}, WayT R F n P ops vs Q tab us listed a la w pend D f → wpOpIn F n P ops Q i (wpAnyIn F n P .any ops Q fuel (listed.setIfInBounds i true)) a w := by
        intro f
        induction f with
        | zero =>
          intro la pend D h
          have hD : i ∈ D := by
            refine Classical.byContradiction fun hno => ?_
            have h1 := nodup_le_len ops.size (i :: D) (fun x hx => by
              rcases List.mem_cons.1 hx with rfl | hx
              · exact hilt
              · exact h.dlt x hx) (List.nodup_cons.2 ⟨hno, h.dnd⟩)
            have h2 := h.len
            rw [List.length_cons] at h1
            omega
          exact doP h (h.dP i hD hius)
        | succ f ihf =>
          intro la pend D h
          by_cases hp : ∃ p ∈ pend, p.i = i
          · exact doP h hp
          have hiD : i ∉ D := fun hD => hp (h.dP i hD hius)
          have hr := h.rest
          unfold eagT at hr
          have notD : ∀ {p : PE}, p ∈ pend → ∀ {j : Nat} {o : Oper}, j ∉ D → anc tab p.i j = false := by
            intro p hp j o hj
            cases ha : anc tab p.i j with
            | false => rfl
            | true =>
              exfalso
              have hpD := (h.punl p hp).2.1
              have hpo := h.inv.ho p hp
              exact hj (anc_done htab (Ls := fun k => k ∈ D) (fun i o ho hi k hk => h.closedD i o ho hi k hk) p.i j p.o hpo (h.closedD p.i p.o hpo hpD) ha (fun k hk => h.dlt k hk))
          split at hr
          · rename_i k hk
            have hkr : rdyB ops.toList D k = true := List.find?_some hk
            have hkv : k ∈ vs := List.mem_of_find?_eq_some hk
            obtain ⟨hkD, ok, hok0, hkb⟩ := rdyB_iff.1 hkr
            obtain ⟨ok1, hok', v, hv, hab, he⟩ := hr
            have eok : ok = ok1 := by rw [hok0] at hok'; exact Option.some.inj hok'
            subst eok
            have hkus : k ∈ us := Classical.byContradiction fun hno => hkD (h.dA k (Array.getElem?_eq_some_iff.1 hok0).1 hno)
            have hpk : ∀ p ∈ pend, p.i ≠ k := fun p hp he => hkD (he ▸ (h.punl p hp).2.1)
            have hpair : ∀ p ∈ pend, pairOK ops tab (p.i, 0) (k, 0) = true := fun p hp =>
              pairS_pair (hstat p.i (h.punl p hp).2.2 k (Array.getElem?_eq_some_iff.1 hok0).1 (hpk p hp)) (notD hp (o := ok) hkD)
            have hdst : ∀ p ∈ pend, ∀ d, p.o.dst = some d → ok.dst ≠ some d := fun p hp => (pair_spec (p := (p.i, 0)) (q := (k, 0)) (h.inv.ho p hp) hok0 (hpair p hp)).1
            refine ihf (la := la.put ok.dst v) (pend := ⟨k, ok, v, la, w⟩ :: pend) (D := k :: D) ⟨h.und, h.size, h.uiff, h.ult, List.nodup_cons.2 ⟨hkD, h.dnd⟩, by rw [List.length_cons]; have := h.len; omega, fun j hj hju => List.mem_cons_of_mem _ (h.dA j hj hju), ?_, ?_, ?_, ?_, ?_, h.closed, by rw [put_defers]; exact h.defers, by rw [put_size]; exact h.tsize, ?_, ⟨⟨hok0, hv, hab, R.refl _, ?_, ?_, hpair⟩, ?_⟩, he⟩
            · intro j hj hju
              rcases List.mem_cons.1 hj with rfl | hj
              · exact ⟨_, List.mem_cons_self, rfl⟩
              · obtain ⟨p, hp, hpj⟩ := h.dP j hj hju
                exact ⟨p, List.mem_cons_of_mem _ hp, hpj⟩
            · intro j hj
              rcases List.mem_cons.1 hj with rfl | hj
              · exact (Array.getElem?_eq_some_iff.1 hok0).1
              · exact h.dlt j hj
            · intro p hp
              rcases List.mem_cons.1 hp with rfl | hp
              · exact ⟨hkus, List.mem_cons_self, hkv⟩
              · exact ⟨(h.punl p hp).1, List.mem_cons_of_mem _ (h.punl p hp).2.1, (h.punl p hp).2.2⟩
            · refine List.nodup_cons.2 ⟨fun hm => ?_, h.pnd⟩
              obtain ⟨p, hp, hpi⟩ := List.mem_map.1 hm
              exact hpk p hp hpi
            · intro j o ho hj q hq
              rcases List.mem_cons.1 hj with rfl | hj
              · rw [hok0] at ho; cases ho
                exact List.mem_cons_of_mem _ (hkb q hq)
              · exact List.mem_cons_of_mem _ (h.closedD j o ho hj q hq)
            · intro d hd
              rw [put_other _ _ (hd _ List.mem_cons_self)]
              exact h.agree d fun p hp => hd p (List.mem_cons_of_mem _ hp)
            · intro d hd
              simp only at hd
              rw [hd, put_get, if_pos rfl]
              have := put_size la (some d) v
              rw [this]
            · intro d hd
              by_cases hx : ∃ p ∈ pend, p.o.dst = some d
              · obtain ⟨p, hp, hpd⟩ := hx
                exact .inl ⟨p, hp, hpd, by rw [put_other _ _ (hdst p hp d hpd)]⟩
              · exact .inr ⟨fun p hp hpd => hx ⟨p, hp, hpd⟩, (h.agree d fun p hp hpd => hx ⟨p, hp, hpd⟩).symm⟩
            · exact PInv.step (by rw [put_size]) h.inv (fun p hp d hd => by rw [put_other _ _ (hdst p hp d hd)]) (fun p hp d hd => rfl) (R.refl _)
          · -- an effect: the one that comes up is among those that can
            have hcand : i ∈ cands ops.toList D := by
              unfold cands
              refine List.mem_filter.2 ⟨List.mem_range.2 (by simpa using hilt), rdyB_iff.2 ⟨hiD, oi, hoi, fun k hk => ?_⟩⟩
              obtain ⟨h1, h2⟩ := hibus k hk
              exact h.dA k h1 h2
            have hop := hr i hcand
            have hap : ∀ p ∈ pend, (∀ d, p.o.dst = some d → d ∉ oi.looksAt ops) ∧ (∀ d, oi.dst = some d → d ∉ p.o.looksAt ops) ∧ ∀ d, p.o.dst = some d → oi.dst ≠ some d := by
              intro p hp'
              have hne : p.i ≠ i := fun e => hp ⟨p, hp', e⟩
              have h1 := pair_spec (p := (p.i, 0)) (q := (i, 0)) (h.inv.ho p hp') hoi (pairS_pair (hstat p.i (h.punl p hp').2.2 i hilt hne) (notD hp' (o := oi) hiD))
              have h2 := h1.2 (noanc p.i (h.punl p hp').1)
              exact ⟨h2.2.2.1, h2.2.2.2, h1.1⟩
            have hsee : Sees ops oi a la := fun d hd => h.agree d fun p hp hpd => (hap p hp).1 d hpd hd
            refine op_move hoi hpl hsee h.defers hQ hop ?_
            intro v w' ds hk
            obtain ⟨hb, he⟩ := hk
            refine ih (us := us.erase i) (la := { la with defers := ds }.put oi.dst v) (pend := pend) (D := i :: D) (f := f) hlen' ⟨hund', hsz', huiff', hult', List.nodup_cons.2 ⟨hiD, h.dnd⟩, by rw [List.length_cons]; have := h.len; omega, ?_, ?_, ?_, ?_, h.pnd, ?_, hclosed', by rw [put_defers, put_defers], by rw [put_size, put_size]; exact h.tsize, ?_, ?_, he⟩
            · intro k hk hku
              by_cases e : k = i
              · subst e; exact List.mem_cons_self
              · exact List.mem_cons_of_mem _ (h.dA k hk fun hx => hku (hmem' k hx e))
            · intro k hkD hku
              rcases List.mem_cons.1 hkD with rfl | hkD
              · exact absurd rfl (hne' _ hku)
              · exact h.dP k hkD (List.mem_of_mem_erase hku)
            · intro j hj
              rcases List.mem_cons.1 hj with rfl | hj
              · exact hilt
              · exact h.dlt j hj
            · intro p hp'
              exact ⟨hmem' p.i (h.punl p hp').1 (fun e => hp ⟨p, hp', e⟩), List.mem_cons_of_mem _ (h.punl p hp').2.1, (h.punl p hp').2.2⟩
            · intro j o ho hj q hq
              rcases List.mem_cons.1 hj with rfl | hj
              · rw [hoi] at ho; cases ho
                obtain ⟨h1, h2⟩ := hibus q hq
                exact List.mem_cons_of_mem _ (h.dA q h1 h2)
              · exact List.mem_cons_of_mem _ (h.closedD j o ho hj q hq)
            · intro d hd
              by_cases hdd : oi.dst = some d
              · rw [hdd, put_get, put_get, if_pos rfl, if_pos rfl]
                show (if d < a.tmps.size then some v else none) = if d < la.tmps.size then some v else none
                rw [h.tsize]
              · rw [put_other _ _ hdd, put_other _ _ hdd]
                exact h.agree d hd
            · refine PInv.step (by rw [put_size]) h.inv (fun p hp d hd => ?_) (fun p hp d hd => ?_) hb
              · rw [put_other _ _ ((hap p hp).2.2 d hd)]
              · rw [put_other _ _ (fun hx => (hap p hp).2.1 d hx hd)]
      exact main f h

/-- **A region that draws its order: whatever makes memory in any order.** -/
theorem wpIn_region_eagT {R : WR} {F : Fence} {n : Nat} {ops : Array Oper} {Q : Exit → Act → World → Prop} {vs tab : List Nat} {id : Nat} {a : Act} {w : World} (hm : P.follows .mixedOrders = true) (hok : statOK ops vs tab = true) (hQ : ∀ c a w, ¬ Q (.panic c) a w)
    (h : eagT R F n P ops vs Q ops.size [] a { w with drawn := w.drawn + 1 }) : (Code.region id ops true).wpIn F n P Q a w := by
  refine wpIn_region_any hm ?_
  refine way_anyT hok hQ ops.size (us := List.range ops.size) (la := a) (pend := []) (D := []) (f := ops.size) (by simp) ⟨List.nodup_range, by simp, ?_, (fun i hi => List.mem_range.1 hi), List.nodup_nil, by simp, (fun i hi hn => absurd (List.mem_range.2 hi) hn), (fun i hi => (by cases hi)), (fun i hi => (by cases hi)), (fun p hp => (by cases hp)), List.nodup_nil, (fun i o ho hi => (by cases hi)), ?_, rfl, rfl, fun _ _ => rfl, trivial, h⟩
  · intro i hi
    simp [Array.getD, hi]
  · intro i o ho hl
    simp [Array.getD] at hl

/-! ### Its verification condition -/
/-- Two things to show. -/
inductive VBoth (A B : Prop) : Prop
  | mk (h : A) (k : B)
def allC : List Nat → (Nat → Prop) → Prop
  | [], _ => VStuck 220
  | i :: r, p => match r with
    | [] => p i
    | _ => VBoth (p i) (allC r p)
theorem allC_mem : ∀ {l : List Nat} {p : Nat → Prop}, allC l p → ∀ i ∈ l, p i
  | [], _, h, _, _ => by cases h
  | [j], p, h, i, hi => by simp at hi; subst hi; exact h
  | j :: k :: r, p, h, i, hi => by
    cases h with
    | mk h1 h2 =>
      rcases List.mem_cons.1 hi with rfl | hi
      · exact h1
      · exact allC_mem (l := k :: r) h2 i hi
def vcT (C : VX) (P : Program) (ops : List Oper) (vs es : List Nat) (M0 : Mem) : Nat → List Nat → St → (St → Prop) → Prop
  | 0, _, st, k => k st
  | f + 1, D, st, k => match nextV ops vs D with
    | some i => match ops[i]? with
      | some o => guardV ops st o (fun st => barV C M0 st o fun s => st.putv o.dst s fun st' => vcT C P ops vs es M0 f (i :: D) st' k) (fun st => st.putv o.dst (.v (.tuple #[])) fun st' => vcT C P ops vs es M0 f (i :: D) st' k)
      | none => VStuck 221
    | none => allC (es.filter (rdyB ops D)) fun i => match ops[i]? with
      | some o => guardV ops st o (fun st => step C P st o fun st' => st'.withM fun M' => VFact (M0.le M') (vcT C P ops vs es M0 f (i :: D) st' k)) (fun st => st.putv o.dst (.v (.tuple #[])) fun st' => vcT C P ops vs es M0 f (i :: D) st' k)
      | none => VStuck 222
theorem vcT_sound {C : VX} (hC : VXOK P C) {r : Option Nat} {n : Nat} {κ : Yt → Bs → Prop} {fx : Nat → Prop} {tm : Array Value} {ops : Array Oper} {vs es : List Nat} (hes : ∀ i, i < ops.toList.length → i ∉ vs → i ∈ es) {k : St → Prop} {G : Gh} {Q : Exit → Act → World → Prop} (hQ : ∀ a W, KK κ G k a W → Keep fx tm a → Q .normal a W) (hw : ∀ o ∈ ops.toList, ∀ d, o.dst = some d → ¬ fx d) {B : Bs} {M0 : Mem} (hlow : ∀ b, b < B.n₀ → M0 b = B.M₀ b) :
    ∀ (f : Nat) {D : List Nat} {ρ : Env} {st : St} {a : Act} {W : World}, vcT C P ops.toList vs es M0 f D st k → κ st.G.Y B → Sat B.n₀ B.w B.M₀ ρ st a W → G.lq st.G → Keep fx tm a → M0.le st.M → eagT (WR.keep (KeepW B M0)) (Fw r) n P ops vs Q f D a W := by
  intro f
  induction f with
  | zero => intro D ρ st a W hk hκ h hG hkp _; exact hQ a W ⟨B, ρ, st, hκ, h, hG, hk⟩ hkp
  | succ f ih =>
    intro D ρ st a W hk hκ h hG hkp hle
    have putM : ∀ (st : St) (d : Option Tmp) (s : SV), (st.put d s).M = st.M := fun st d s => by cases d <;> rfl
    have kw : ∀ {ρ' : Env} {st' : St} {a' : Act} {W' : World}, Sat B.n₀ B.w B.M₀ ρ' st' a' W' → M0.le st'.M → KeepW B M0 W' := fun h hl => ⟨h.h.below, h.h.size, fun b o hb => h.h.mem b o (hl b o hb)⟩
    have skip : ∀ {i : Nat} {o : Oper}, (∀ d, o.dst = some d → ¬ fx d) → ∀ {st1 : St}, Sat B.n₀ B.w B.M₀ ρ st1 a W → st1.G = st.G → M0.le st1.M → (st1.putv o.dst (.v (.tuple #[])) fun st' => vcT C P ops.toList vs es M0 f (i :: D) st' k) → eagT (WR.keep (KeepW B M0)) (Fw r) n P ops vs Q f (i :: D) (a.put o.dst undef) W := by
      intro i o hwo st1 h1 hG1 hM1 hB
      obtain ⟨j1, j2⟩ := putv_elim hB h1 (by trivial)
      exact ih j2 (by rw [put_G, hG1]; exact hκ) j1 (by rw [put_G, hG1]; exact hG) (hkp.put hwo _) (by rw [putM]; exact hM1)
    unfold vcT at hk
    unfold eagT
    split at hk
    · rename_i i hn
      split at hk
      · rename_i o ho
        have ho' : ops[i]? = some o := by simpa using ho
        have hwo := hw o (List.mem_of_getElem? ho)
        refine ⟨o, ho', ?_⟩
        obtain ⟨st1, h1, hG1, hM1, hcase⟩ := guard_soundM h hk
        have hM1' : M0.le st1.M := by rw [hM1]; exact hle
        rcases hcase with ⟨hw', hA⟩ | ⟨hw', hB⟩
        · obtain ⟨sl, ow, nx, M1, nt, G1⟩ := st1
          have hbH : ∀ W', KeepW B M0 W' → SatH B.n₀ B.w B.M₀ ρ ⟨sl, [], nx, M0, nt, ⟨fun _ => none, none, fun _ => none⟩⟩ W' := fun W' hk =>
            ⟨hk.1, hk.2.1, hk.2.2, fun id e he => (by cases he), fun i j ei ej hi => (by cases hi), fun i e b hi => (by cases hi), fun b o hb => (by cases hb), hlow, fun b o hb => (by cases hb)⟩
          have hbs : Sat B.n₀ B.w B.M₀ ρ ⟨sl, [], nx, M0, nt, ⟨fun _ => none, none, fun _ => none⟩⟩ { a with defers := [] } W := ⟨hbH W (kw h1 hM1'), h1.nt, h1.sl, trivial⟩
          obtain ⟨_, s, q1, q2, q3⟩ := val_sound hC hA hbs
          obtain ⟨j1, j2⟩ := putv_elim q3 h1 q1
          exact ⟨s.den ρ, fun W' hb => .inl ⟨hw', q2 W' (hbH W' (hb (kw h1 hM1')))⟩, fun _ _ _ _ => trivial, ih j2 (by rw [put_G, hG1]; exact hκ) j1 (by rw [put_G, hG1]; exact hG) (hkp.put hwo _) (by rw [putM]; exact hM1')⟩
        · exact ⟨undef, fun W' hb => .inr ⟨hw', rfl⟩, fun _ _ _ _ => trivial, skip hwo h1 hG1 hM1' hB⟩
      · cases hk
    · rename_i hn
      intro i hi
      have hi' : i ∈ es.filter (rdyB ops.toList D) := by
        obtain ⟨h1, h2⟩ := List.mem_filter.1 hi
        refine List.mem_filter.2 ⟨hes i (List.mem_range.1 h1) fun hv => ?_, h2⟩
        exact absurd h2 (List.find?_eq_none.1 hn i hv)
      have hk := allC_mem hk i hi'
      split at hk
      · rename_i o ho
        have ho' : ops[i]? = some o := by simpa using ho
        have hwo := hw o (List.mem_of_getElem? ho)
        obtain ⟨st1, h1, hG1, hM1, hcase⟩ := guard_soundM h hk
        have hM1' : M0.le st1.M := by rw [hM1]; exact hle
        unfold wpOpIn
        simp only [ho']
        rcases hcase with ⟨hw', hA⟩ | ⟨hw', hB⟩
        · rw [if_pos hw']
          refine Oper.wpIn_mono ?_ (op_keep (step_sound hC hA h1) hwo hkp)
          rintro a' W' ⟨⟨ρ', st', g1, g2, g3⟩, hkp'⟩
          cases withM_iff g3 with
          | mk hle' hk' => exact ⟨fun _ => kw g1 hle', ih hk' (by rw [g2.2, hG1]; exact hκ) g1 (hG.trans (by rw [← hG1]; exact g2.1)) hkp' hle'⟩
        · rw [if_neg (by rw [hw']; exact Bool.false_ne_true)]
          exact ⟨fun _ _ => trivial, fun h => h, skip hwo h1 hG1 hM1' hB⟩
      · cases hk
/-- Which operations yield a value. -/
def valsOf (ops : List Oper) : List Nat := (List.range ops.length).filter fun i => match ops[i]? with | some o => isVal ops o | none => false
/-- A region, its operations in any order; the ways come together in one state. -/
theorem VCode.draws {C : VX} (hC : VXOK P C) {id : Nat} {ops : Array Oper} {st : St} {Q : Ex → St → Prop} (ds : List Nat) (hok : statOK ops (valsOf ops.toList) (tabOf ops.toList) = true) (S : Type) (inv : S → St) (pf : S → Prop)
    (walk : frzSl st ds fun st1 => st1.withM fun M0 => vcT C P ops.toList (valsOf ops.toList) (List.range ops.toList.length) M0 ops.toList.length [] st1 fun st' => ∃ s, pf s ∧ Wk st' (inv s))
    (rest : st.withYf fun _ f => ∀ s m, pf s → (inv s).flatG m f (Q .normal)) : VCode P (.region id ops true) st Q := by
  refine ⟨fun r n κ B ρ a W fx tm hY hr hκ h hwr hkp => ?_⟩
  obtain ⟨st1, h1, hG1, hk⟩ := frzSl_sound h walk
  replace hk := withM_iff hk
  refine wpIn_region_eagT (R := WR.keep (KeepW B st1.M)) (vs := valsOf ops.toList) (tab := tabOf ops.toList) hC.mixed hok ?_ ?_
  · rintro c a' w' ⟨⟨ex, he, _⟩, _⟩; cases he
  · rw [show ops.toList.length = ops.size from Array.length_toList] at hk
    refine vcT_sound hC (fun i hi _ => List.mem_range.2 hi) (G := st1.G) (k := fun st' => ∃ s, pf s ∧ Wk st' (inv s)) (fun a W hK hkp => ⟨⟨.normal, rfl, ?_⟩, hkp⟩) hwr h1.h.mlow _ hk (by rw [hG1]; exact hκ) (h1.grow (W' := { W with drawn := W.drawn + 1 }) (Below.drew (Below.refl _ W)) (M' := st1.M) h1.h.mem (fun _ _ => rfl)) (Gh.lq_refl _) hkp (Mem.le_refl _)
    obtain ⟨B', ρ', st', hκ', g1, g2, s, hp, hwk⟩ := hK
    obtain ⟨ρ1, hs1⟩ := hwk.imp st'.G _ _ _ ρ' a W g1
    have hq := flatG_iff (withYf_iff rest s st'.G.m hp)
    have hf : st'.G.f = st.G.f := by rw [g2.2, hG1]
    refine ⟨B', ρ1, _, ?_, ?_, ?_, hq⟩
    · rw [← hwk.y]; exact hκ'
    · rw [← hwk.y, ← hf]; exact hs1
    · exact ⟨by rw [← hG1]; exact g2.1, rfl⟩
/-- What every operation is: it yields a value, or is listed among the others. -/
def coverB (n : Nat) (vs es : List Nat) : Bool := (List.range n).all fun i => vs.any (Nat.beq i) || es.any (Nat.beq i)
theorem coverB_spec {n : Nat} {vs es : List Nat} (h : coverB n vs es = true) : ∀ i, i < n → i ∉ vs → i ∈ es := fun i hi hv => by
  have := List.all_eq_true.1 h i (List.mem_range.2 hi)
  rcases Bool.or_eq_true .. ▸ this with h1 | h1
  · exact absurd (any_beq.1 h1) hv
  · exact any_beq.1 h1
/-- The same, the operations that yield a value, and the others, written out. -/
theorem VCode.drawsL {C : VX} (hC : VXOK P C) {id : Nat} {ops : Array Oper} {st : St} {Q : Ex → St → Prop} (ds vs es : List Nat) (hok : (statOK ops vs (tabOf ops.toList) && coverB ops.toList.length vs es) = true) (S : Type) (inv : S → St) (pf : S → Prop)
    (walk : frzSl st ds fun st1 => st1.withM fun M0 => vcT C P ops.toList vs es M0 ops.toList.length [] st1 fun st' => ∃ s, pf s ∧ Wk st' (inv s))
    (rest : st.withYf fun _ f => ∀ s m, pf s → (inv s).flatG m f (Q .normal)) : VCode P (.region id ops true) st Q := by
  obtain ⟨hok, hcov⟩ := Bool.and_eq_true .. ▸ hok
  refine ⟨fun r n κ B ρ a W fx tm hY hr hκ h hwr hkp => ?_⟩
  obtain ⟨st1, h1, hG1, hk⟩ := frzSl_sound h walk
  replace hk := withM_iff hk
  refine wpIn_region_eagT (R := WR.keep (KeepW B st1.M)) (vs := vs) (tab := tabOf ops.toList) hC.mixed hok ?_ ?_
  · rintro c a' w' ⟨⟨ex, he, _⟩, _⟩; cases he
  · rw [show ops.toList.length = ops.size from Array.length_toList] at hk
    refine vcT_sound hC (coverB_spec hcov) (G := st1.G) (k := fun st' => ∃ s, pf s ∧ Wk st' (inv s)) (fun a W hK hkp => ⟨⟨.normal, rfl, ?_⟩, hkp⟩) hwr h1.h.mlow _ hk (by rw [hG1]; exact hκ) (h1.grow (W' := { W with drawn := W.drawn + 1 }) (Below.drew (Below.refl _ W)) (M' := st1.M) h1.h.mem (fun _ _ => rfl)) (Gh.lq_refl _) hkp (Mem.le_refl _)
    obtain ⟨B', ρ', st', hκ', g1, g2, s, hp, hwk⟩ := hK
    obtain ⟨ρ1, hs1⟩ := hwk.imp st'.G _ _ _ ρ' a W g1
    have hq := flatG_iff (withYf_iff rest s st'.G.m hp)
    have hf : st'.G.f = st.G.f := by rw [g2.2, hG1]
    refine ⟨B', ρ1, _, ?_, ?_, ?_, hq⟩
    · rw [← hwk.y]; exact hκ'
    · rw [← hwk.y, ← hf]; exact hs1
    · exact ⟨by rw [← hG1]; exact g2.1, rfl⟩
/-- A region, its operations in any order; the ways come together in one state; with what is known of the pins. -/
theorem VCode.drawsG {C : VX} (hC : VXOK P C) {id : Nat} {ops : Array Oper} {st : St} {Q : Ex → St → Prop} (ds : List Nat) (hok : statOK ops (valsOf ops.toList) (tabOf ops.toList) = true) (PG : Mem → Prop) (S : Type) (inv : S → St) (pf : S → Prop)
    (walk : frzSl st ds fun st1 => st1.withM fun M0 => vcT C P ops.toList (valsOf ops.toList) (List.range ops.toList.length) M0 ops.toList.length [] st1 fun st' => PG st'.G.m ∧ ∃ s, pf s ∧ Wk st' (inv s))
    (rest : st.withYf fun _ f => ∀ s m, PG m → pf s → (inv s).flatG m f (Q .normal)) : VCode P (.region id ops true) st Q := by
  refine ⟨fun r n κ B ρ a W fx tm hY hr hκ h hwr hkp => ?_⟩
  obtain ⟨st1, h1, hG1, hk⟩ := frzSl_sound h walk
  replace hk := withM_iff hk
  refine wpIn_region_eagT (R := WR.keep (KeepW B st1.M)) (vs := valsOf ops.toList) (tab := tabOf ops.toList) hC.mixed hok ?_ ?_
  · rintro c a' w' ⟨⟨ex, he, _⟩, _⟩; cases he
  · rw [show ops.toList.length = ops.size from Array.length_toList] at hk
    refine vcT_sound hC (fun i hi _ => List.mem_range.2 hi) (G := st1.G) (k := fun st' => PG st'.G.m ∧ ∃ s, pf s ∧ Wk st' (inv s)) (fun a W hK hkp => ⟨⟨.normal, rfl, ?_⟩, hkp⟩) hwr h1.h.mlow _ hk (by rw [hG1]; exact hκ) (h1.grow (W' := { W with drawn := W.drawn + 1 }) (Below.drew (Below.refl _ W)) (M' := st1.M) h1.h.mem (fun _ _ => rfl)) (Gh.lq_refl _) hkp (Mem.le_refl _)
    obtain ⟨B', ρ', st', hκ', g1, g2, hPG, s, hp, hwk⟩ := hK
    obtain ⟨ρ1, hs1⟩ := hwk.imp st'.G _ _ _ ρ' a W g1
    have hq := flatG_iff (withYf_iff rest s st'.G.m hPG hp)
    have hf : st'.G.f = st.G.f := by rw [g2.2, hG1]
    refine ⟨B', ρ1, _, ?_, ?_, ?_, hq⟩
    · rw [← hwk.y]; exact hκ'
    · rw [← hwk.y, ← hf]; exact hs1
    · exact ⟨by rw [← hG1]; exact g2.1, rfl⟩
/-- What a join asks of the ways through a code. -/
def joinQ (S : Type) (inv : S → St) (pf : S → Prop) (Q : Ex → St → Prop) : Ex → St → Prop := fun e st' => match e with
  | .normal => ∃ s, pf s ∧ Wk st' (inv s)
  | .ret => Q .ret st'
  | .exit i => Q (.exit i) st'
/-- A code whose ways come together in one state. -/
theorem VCode.join {C : VX} (hC : VXOK P C) {c : Code} {st : St} {Q : Ex → St → Prop} (S : Type) (inv : S → St) (pf : S → Prop)
    (walk : vc C P c st (joinQ S inv pf Q)) (rest : st.withYf fun _ f => ∀ s m, pf s → (inv s).flatG m f (Q .normal)) : VCode P c st Q := by
  refine ⟨fun r n κ B ρ a W fx tm hY hr hκ h hwr hkp => ?_⟩
  refine wpIn_mono (vc_sound hC hY c walk hr hκ h hwr hkp) ?_
  rintro e a' W' ⟨⟨ex, he, B', ρ', st', hκ', g1, g2, g3⟩, hkp'⟩
  refine ⟨⟨ex, he, ?_⟩, hkp'⟩
  cases ex with
  | normal =>
    obtain ⟨s, hp, hwk⟩ := g3
    obtain ⟨ρ1, hs1⟩ := hwk.imp st'.G _ _ _ ρ' a' W' g1
    have hq := flatG_iff (withYf_iff rest s st'.G.m hp)
    have hf : st'.G.f = st.G.f := g2.2
    refine ⟨B', ρ1, _, ?_, ?_, ?_, hq⟩
    · rw [← hwk.y]; exact hκ'
    · rw [← hwk.y, ← hf]; exact hs1
    · exact ⟨g2.1, rfl⟩
  | ret => exact ⟨B', ρ', st', hκ', g1, g2, g3⟩
  | exit i => exact ⟨B', ρ', st', hκ', g1, g2, g3⟩
/-- A state that says less, ahead of a code. -/
theorem VCode.ease {c : Code} {st : St} {Q : Ex → St → Prop} (st' : St) (hw : Wk st st') (rest : st.withYf fun _ f => ∀ m, st'.flatG m f fun st2 => VCode P c st2 Q) : VCode P c st Q := by
  refine ⟨fun r n κ B ρ a W fx tm hY hr hκ h hwr hkp => ?_⟩
  obtain ⟨ρ1, hs1⟩ := hw.imp st.G _ _ _ ρ a W h
  have hq := flatG_iff (withYf_iff rest st.G.m)
  have hG : (⟨st.G.m, st'.G.Y, st.G.f⟩ : Gh) = st.G := by rw [← hw.y]
  rw [hG] at hq
  exact hq.run r n κ B ρ1 a W fx tm hY hr hκ hs1 hwr hkp
/-- What slots hold is frozen ahead of a code: own variables that are only read from here on. -/
theorem VCode.frz {c : Code} {st : St} {Q : Ex → St → Prop} (ds : List Nat) (walk : frzSl st ds fun st1 => VCode P c st1 Q) : VCode P c st Q := by
  refine ⟨fun r n κ B ρ a W fx tm hY hr hκ h hwr hkp => ?_⟩
  obtain ⟨st1, h1, hG1, hk⟩ := frzSl_sound h walk
  have := hk.run r n κ B ρ a W fx tm hY (by rw [hG1]; exact hr) (by rw [hG1]; exact hκ) h1 hwr hkp
  rw [hG1] at this
  exact this
end Go.V

/- Contracts of package ray: leaves, rays, what lies between two. -/
namespace Go.Proofs.YtlppfikkgcfaoaaGreat
open Go Go.V Go.RowKit
def vecB (v : Pt) : Bool := decide (-1000000 ≤ v.1 ∧ v.1 ≤ 1000000 ∧ -1000000 ≤ v.2 ∧ v.2 ≤ 1000000) && !(v.1 == 0 && v.2 == 0)
def isV (v : Pt) : Prop := -1000000 ≤ v.1 ∧ v.1 ≤ 1000000 ∧ -1000000 ≤ v.2 ∧ v.2 ≤ 1000000
theorem vec_V {v : Pt} (h : vecB v = true) : isV v := by
  simp only [vecB, Bool.and_eq_true, decide_eq_true_eq] at h
  exact h.1
theorem rotN_V {v : Pt} (h : isV v) : ∀ n, isV (rotN n v)
  | 0 => h
  | n + 1 => by
    have := rotN_V h n
    unfold isV at *
    simp only [rotN, rotL]
    omega
def tblT : Bool := (List.range 16).all fun k => decide (-1000 ≤ (gp tblR k).1 ∧ (gp tblR k).1 ≤ 1000 ∧ -1000 ≤ (gp tblR k).2 ∧ (gp tblR k).2 ≤ 1000)
theorem tblT_ok : tblT = true := by decide +kernel
def isR (v : Pt) : Prop := -1000 ≤ v.1 ∧ v.1 ≤ 1000 ∧ -1000 ≤ v.2 ∧ v.2 ≤ 1000
theorem rotN_R {v : Pt} (h : isR v) : ∀ n, isR (rotN n v)
  | 0 => h
  | n + 1 => by
    have := rotN_R h n
    unfold isR at *
    simp only [rotN, rotL]
    omega
theorem tbl_R {k : Nat} (h : k < 16) : isR (gp tblR k) := by
  have := tblT_ok
  simp only [tblT, List.all_eq_true, List.mem_range, decide_eq_true_eq] at this
  exact this k h
theorem ray_R (k : Nat) : isR (rayP k) := rotN_R (tbl_R (Nat.mod_lt _ (by decide))) _
theorem R_V {v : Pt} (h : isR v) : isV v := by unfold isR at h; unfold isV; omega
theorem crossRay_fn (a b : Pt) (M : Mem) (ha : isV a) (hb : isV b) : FnP Tryz.prog 19 [ptv a, ptv b] M [.int .i64 (crs a b)] := by
  obtain ⟨h1, h2, h3, h4⟩ := ha
  obtain ⟨k1, k2, k3, k4⟩ := hb
  have e1 := mul_bd (a := a.1) (b := b.2) 1000000 1000000 (by omega) (by omega) (by omega) (by omega) (by omega) (by omega)
  have e2 := mul_bd (a := a.2) (b := b.1) 1000000 1000000 (by omega) (by omega) (by omega) (by omega) (by omega) (by omega)
  refine Fn.of_vc cxOK Tryz.func19 rfl rfl rfl ?_
  repeat (first | refine VIf.tt ?_ | refine VIf.ff ?_)
  refine VArith.ok (by first | omega | (simp only; omega)) (by first | omega | (simp only; omega)) ?_
  repeat (first | refine VIf.tt ?_ | refine VIf.ff ?_)
  refine VArith.ok (by first | omega | (simp only; omega)) (by first | omega | (simp only; omega)) ?_
  repeat (first | refine VIf.tt ?_ | refine VIf.ff ?_)
  refine VArith.ok (by first | omega | (simp only; omega)) (by first | omega | (simp only; omega)) ?_
  repeat (first | refine VIf.tt ?_ | refine VIf.ff ?_)
  exact VFact.mk ⟨rfl, rfl⟩ trivial
theorem inRay_fn (n : Int) (M : Mem) : FnP Tryz.prog 35 [.int .i64 n] M [.bool (decide (-1000000 ≤ n ∧ n ≤ 1000000))] := by
  refine Fn.of_vc cxOK Tryz.func35 rfl rfl rfl ?_
  repeat' (first | refine VIf.tt ?_ | refine VIf.ff ?_ | refine VIf.mk (fun _ => ?_) (fun _ => ?_) | refine VFact.mk ?_ trivial)
  all_goals (refine ⟨bool1 ?_, rfl⟩; simp only [Bool.and_eq_true, decide_eq_true_eq, decide_eq_false_iff_not, Bool.false_eq_true, false_iff] at *; omega)
theorem isVector_fn (v : Pt) (M : Mem) : FnP Tryz.prog 17 [ptv v] M [.bool (vecB v)] := by
  refine Fn.of_vc cxOK Tryz.func17 rfl rfl rfl ?_
  repeat (first | refine VIf.tt ?_ | refine VIf.ff ?_)
  refine VFn.p (inRay_fn v.1 M) ?_
  repeat (first | refine VIf.tt ?_ | refine VIf.ff ?_)
  refine VIf.mk (fun h1 => ?_) (fun h1 => ?_)
  · repeat (first | refine VIf.tt ?_ | refine VIf.ff ?_)
    refine VFn.p (inRay_fn v.2 M) ?_
    repeat (first | refine VIf.tt ?_ | refine VIf.ff ?_)
    repeat (first | refine VIf.tt ?_ | refine VIf.ff ?_)
    refine VIf.mk (fun h2 => ?_) (fun h2 => ?_)
    · repeat (first | refine VIf.tt ?_ | refine VIf.ff ?_)
      refine VFact.mk ⟨?_, rfl⟩ trivial
      have h1 := of_decide_eq_true h1
      have h2 := of_decide_eq_true h2
      unfold vecB
      rw [decide_eq_true ⟨h1.1, h1.2, h2.1, h2.2⟩]; rfl
    · repeat (first | refine VIf.tt ?_ | refine VIf.ff ?_)
      refine VFact.mk ⟨?_, rfl⟩ trivial
      have h2 := of_decide_eq_false h2
      unfold vecB
      rw [decide_eq_false (by omega)]; rfl
  · repeat (first | refine VIf.tt ?_ | refine VIf.ff ?_)
    repeat (first | refine VIf.tt ?_ | refine VIf.ff ?_)
    refine VFact.mk ⟨?_, rfl⟩ trivial
    have h1 := of_decide_eq_false h1
    unfold vecB
    rw [decide_eq_false (by omega)]; rfl
theorem areRays_fn (a n : Int) (M : Mem) : FnP Tryz.prog 14 [.int .i64 a, .int .i64 n] M [.bool (decide (0 ≤ a ∧ a < 64 ∧ 0 ≤ n ∧ n < 32))] := by
  refine Fn.of_vc cxOK Tryz.func14 rfl rfl rfl ?_
  repeat' (first | refine VIf.tt ?_ | refine VIf.ff ?_ | refine VIf.mk (fun _ => ?_) (fun _ => ?_) | refine VFact.mk ?_ trivial)
  all_goals (refine ⟨bool1 ?_, rfl⟩; simp only [Bool.and_eq_true, decide_eq_true_eq, decide_eq_false_iff_not, Bool.false_eq_true, false_iff] at *; omega)
theorem isOn_fn (t v : Pt) (M : Mem) (ht : isV t) (hv : isV v) : FnP Tryz.prog 18 [ptv t, ptv v] M [.bool (decide (crs t v = 0) && decide (0 < dot2 t v))] := by
  have ht' := ht
  have hv' := hv
  obtain ⟨h1, h2, h3, h4⟩ := ht
  obtain ⟨k1, k2, k3, k4⟩ := hv
  have e1 := mul_bd (a := t.1) (b := v.1) 1000000 1000000 (by omega) (by omega) (by omega) (by omega) (by omega) (by omega)
  have e2 := mul_bd (a := t.2) (b := v.2) 1000000 1000000 (by omega) (by omega) (by omega) (by omega) (by omega) (by omega)
  refine Fn.of_vc cxOK Tryz.func18 rfl rfl rfl ?_
  repeat (first | refine VIf.tt ?_ | refine VIf.ff ?_)
  refine VFn.p (crossRay_fn t v M ht' hv') ?_
  repeat (first | refine VIf.tt ?_ | refine VIf.ff ?_)
  refine VIf.mk (fun h => ?_) (fun h => ?_)
  · repeat (first | refine VIf.tt ?_ | refine VIf.ff ?_)
    refine VArith.ok (by first | omega | (simp only; omega)) (by first | omega | (simp only; omega)) ?_
    repeat (first | refine VIf.tt ?_ | refine VIf.ff ?_)
    refine VArith.ok (by first | omega | (simp only; omega)) (by first | omega | (simp only; omega)) ?_
    repeat (first | refine VIf.tt ?_ | refine VIf.ff ?_)
    refine VArith.ok (by first | omega | (simp only; omega)) (by first | omega | (simp only; omega)) ?_
    repeat (first | refine VIf.tt ?_ | refine VIf.ff ?_)
    repeat (first | refine VIf.tt ?_ | refine VIf.ff ?_)
    refine VFact.mk ⟨?_, rfl⟩ trivial
    rw [decide_eq_true (beq_iff_eq.1 h), Bool.true_and]; rfl
  · repeat (first | refine VIf.tt ?_ | refine VIf.ff ?_)
    repeat (first | refine VIf.tt ?_ | refine VIf.ff ?_)
    refine VFact.mk ⟨?_, rfl⟩ trivial
    rw [decide_eq_false (by simpa using h)]; rfl
theorem left_fn (x : Pt) (n : Nat) (M : Mem) (hx : isR x) : FnP Tryz.prog 32 [ptv x, .int .i64 n] M [ptv (rotN (n % 4) x)] := by
  have e4 : ((n : Int).tmod 4) = ((n % 4 : Nat) : Int) := by rw [Int.tmod_eq_emod_of_nonneg (by omega)]; simp
  refine Fn.of_vc cxOK Tryz.func32 rfl rfl rfl ?_
  repeat (first | refine VIf.tt ?_ | refine VIf.ff ?_)
  refine VDiv.mk (by omega) ?_
  repeat (first | refine VIf.tt ?_ | refine VIf.ff ?_)
  refine VCode.loop cxOK Nat (fun i => ⟨[(2, .box 0 0), (4, .box 1 0), (6, .v (.int .i64 ((n : Int).tmod 4))), (7, .v (.int .i64 i))], [(1, some (.box 23 [.v (.int .i64 0), .v (.int .i64 0)])), (0, some (.box 23 [.v (.int .i64 (rotN i x).1), .v (.int .i64 (rotN i x).2)]))], 2, M, 17, ⟨fun _ => none, none, fun _ => none⟩⟩)
    (fun i => i ≤ n % 4) (fun i => n % 4 - i) 0 (Nat.zero_le _) (Wk.mk' id (by repeat' constructor) (by repeat' constructor) (injOK_id _) rfl rfl rfl) ?_
  intro i hi m
  have hR := rotN_R hx i
  unfold isR at hR
  repeat (first | refine VIf.tt ?_ | refine VIf.ff ?_)
  refine VIf.mk (fun hlt => ?_) (fun hge => ?_)
  · have hlt : i < n % 4 := by have := of_decide_eq_true hlt; omega
    repeat (first | refine VIf.tt ?_ | refine VIf.ff ?_)
    refine VArith.ok (by first | omega | (simp only; omega)) (by first | omega | (simp only; omega)) ?_
    repeat (first | refine VIf.tt ?_ | refine VIf.ff ?_)
    refine VArith.ok (by first | omega | (simp only; omega)) (by first | omega | (simp only; omega)) ?_
    exact ⟨i + 1, hlt, (by first | omega | (simp only; omega)), (Wk.mk' id (by repeat' constructor) (by repeat' constructor) (injOK_id _) rfl rfl rfl)⟩
  · have : i = n % 4 := by have := of_decide_eq_false hge; omega
    subst this
    repeat (first | refine VIf.tt ?_ | refine VIf.ff ?_)
    exact VFact.mk ⟨rfl, rfl⟩ trivial
set_option maxRecDepth 20000 in
set_option maxHeartbeats 4000000 in
theorem atRay_fn (k : Nat) (M : Mem) (hk : k < 1000) : FnP Tryz.prog 15 [.int .i64 k] M [ptv (rayP k)] := by
  refine Fn.of_vc cxOK Tryz.func15 rfl rfl rfl ?_
  repeat (first | refine VIf.tt ?_ | refine VIf.ff ?_)
  refine VDiv.mk (by decide) ?_
  rcases (by omega : k % 16 = 0 ∨ k % 16 = 1 ∨ k % 16 = 2 ∨ k % 16 = 3 ∨ k % 16 = 4 ∨ k % 16 = 5 ∨ k % 16 = 6 ∨ k % 16 = 7 ∨ k % 16 = 8 ∨ k % 16 = 9 ∨ k % 16 = 10 ∨ k % 16 = 11 ∨ k % 16 = 12 ∨ k % 16 = 13 ∨ k % 16 = 14 ∨ k % 16 = 15) with h | h | h | h | h | h | h | h | h | h | h | h | h | h | h | h
  · obtain ⟨q, hq⟩ : ∃ q, k = 16 * q + 0 := ⟨k / 16, by omega⟩
    subst hq
    repeat (first | refine VIf.tt ?_ | refine VIf.ff ?_)
    refine VIdxR.mk 0 (by rw [Int.tmod_eq_emod_of_nonneg (by omega)]; omega) (by decide) ?_
    repeat (first | refine VIf.tt ?_ | refine VIf.ff ?_)
    refine VDiv.mk (by omega) ?_
    have ed : ((16 * q + 0 : Nat) : Int).tdiv 16 = (q : Int) := by rw [Int.tdiv_eq_ediv_of_nonneg (by omega)]; omega
    repeat (first | refine VIf.tt ?_ | refine VIf.ff ?_)
    refine VArith.ok (by rw [ed]; omega) (by rw [ed]; omega) ?_
    have F := left_fn (gp tblR 0) q M (tbl_R (by decide))
    rw [← ed] at F
    repeat (first | refine VIf.tt ?_ | refine VIf.ff ?_)
    refine VFn.p F ?_
    repeat (first | refine VIf.tt ?_ | refine VIf.ff ?_)
    refine VFact.mk ⟨?_, rfl⟩ trivial
    unfold rayP
    rw [show (16 * q + 0) / 16 % 4 = q % 4 by omega, show (16 * q + 0) % 16 = 0 by omega]; rfl
  · obtain ⟨q, hq⟩ : ∃ q, k = 16 * q + 1 := ⟨k / 16, by omega⟩
    subst hq
    repeat (first | refine VIf.tt ?_ | refine VIf.ff ?_)
    refine VIdxR.mk 1 (by rw [Int.tmod_eq_emod_of_nonneg (by omega)]; omega) (by decide) ?_
    repeat (first | refine VIf.tt ?_ | refine VIf.ff ?_)
    refine VDiv.mk (by omega) ?_
    have ed : ((16 * q + 1 : Nat) : Int).tdiv 16 = (q : Int) := by rw [Int.tdiv_eq_ediv_of_nonneg (by omega)]; omega
    repeat (first | refine VIf.tt ?_ | refine VIf.ff ?_)
    refine VArith.ok (by rw [ed]; omega) (by rw [ed]; omega) ?_
    have F := left_fn (gp tblR 1) q M (tbl_R (by decide))
    rw [← ed] at F
    repeat (first | refine VIf.tt ?_ | refine VIf.ff ?_)
    refine VFn.p F ?_
    repeat (first | refine VIf.tt ?_ | refine VIf.ff ?_)
    refine VFact.mk ⟨?_, rfl⟩ trivial
    unfold rayP
    rw [show (16 * q + 1) / 16 % 4 = q % 4 by omega, show (16 * q + 1) % 16 = 1 by omega]; rfl
  · obtain ⟨q, hq⟩ : ∃ q, k = 16 * q + 2 := ⟨k / 16, by omega⟩
    subst hq
    repeat (first | refine VIf.tt ?_ | refine VIf.ff ?_)
    refine VIdxR.mk 2 (by rw [Int.tmod_eq_emod_of_nonneg (by omega)]; omega) (by decide) ?_
    repeat (first | refine VIf.tt ?_ | refine VIf.ff ?_)
    refine VDiv.mk (by omega) ?_
    have ed : ((16 * q + 2 : Nat) : Int).tdiv 16 = (q : Int) := by rw [Int.tdiv_eq_ediv_of_nonneg (by omega)]; omega
    repeat (first | refine VIf.tt ?_ | refine VIf.ff ?_)
    refine VArith.ok (by rw [ed]; omega) (by rw [ed]; omega) ?_
    have F := left_fn (gp tblR 2) q M (tbl_R (by decide))
    rw [← ed] at F
    repeat (first | refine VIf.tt ?_ | refine VIf.ff ?_)
    refine VFn.p F ?_
    repeat (first | refine VIf.tt ?_ | refine VIf.ff ?_)
    refine VFact.mk ⟨?_, rfl⟩ trivial
    unfold rayP
    rw [show (16 * q + 2) / 16 % 4 = q % 4 by omega, show (16 * q + 2) % 16 = 2 by omega]; rfl
  · obtain ⟨q, hq⟩ : ∃ q, k = 16 * q + 3 := ⟨k / 16, by omega⟩
    subst hq
    repeat (first | refine VIf.tt ?_ | refine VIf.ff ?_)
    refine VIdxR.mk 3 (by rw [Int.tmod_eq_emod_of_nonneg (by omega)]; omega) (by decide) ?_
    repeat (first | refine VIf.tt ?_ | refine VIf.ff ?_)
    refine VDiv.mk (by omega) ?_
    have ed : ((16 * q + 3 : Nat) : Int).tdiv 16 = (q : Int) := by rw [Int.tdiv_eq_ediv_of_nonneg (by omega)]; omega
    repeat (first | refine VIf.tt ?_ | refine VIf.ff ?_)
    refine VArith.ok (by rw [ed]; omega) (by rw [ed]; omega) ?_
    have F := left_fn (gp tblR 3) q M (tbl_R (by decide))
    rw [← ed] at F
    repeat (first | refine VIf.tt ?_ | refine VIf.ff ?_)
    refine VFn.p F ?_
    repeat (first | refine VIf.tt ?_ | refine VIf.ff ?_)
    refine VFact.mk ⟨?_, rfl⟩ trivial
    unfold rayP
    rw [show (16 * q + 3) / 16 % 4 = q % 4 by omega, show (16 * q + 3) % 16 = 3 by omega]; rfl
  · obtain ⟨q, hq⟩ : ∃ q, k = 16 * q + 4 := ⟨k / 16, by omega⟩
    subst hq
    repeat (first | refine VIf.tt ?_ | refine VIf.ff ?_)
    refine VIdxR.mk 4 (by rw [Int.tmod_eq_emod_of_nonneg (by omega)]; omega) (by decide) ?_
    repeat (first | refine VIf.tt ?_ | refine VIf.ff ?_)
    refine VDiv.mk (by omega) ?_
    have ed : ((16 * q + 4 : Nat) : Int).tdiv 16 = (q : Int) := by rw [Int.tdiv_eq_ediv_of_nonneg (by omega)]; omega
    repeat (first | refine VIf.tt ?_ | refine VIf.ff ?_)
    refine VArith.ok (by rw [ed]; omega) (by rw [ed]; omega) ?_
    have F := left_fn (gp tblR 4) q M (tbl_R (by decide))
    rw [← ed] at F
    repeat (first | refine VIf.tt ?_ | refine VIf.ff ?_)
    refine VFn.p F ?_
    repeat (first | refine VIf.tt ?_ | refine VIf.ff ?_)
    refine VFact.mk ⟨?_, rfl⟩ trivial
    unfold rayP
    rw [show (16 * q + 4) / 16 % 4 = q % 4 by omega, show (16 * q + 4) % 16 = 4 by omega]; rfl
  · obtain ⟨q, hq⟩ : ∃ q, k = 16 * q + 5 := ⟨k / 16, by omega⟩
    subst hq
    repeat (first | refine VIf.tt ?_ | refine VIf.ff ?_)
    refine VIdxR.mk 5 (by rw [Int.tmod_eq_emod_of_nonneg (by omega)]; omega) (by decide) ?_
    repeat (first | refine VIf.tt ?_ | refine VIf.ff ?_)
    refine VDiv.mk (by omega) ?_
    have ed : ((16 * q + 5 : Nat) : Int).tdiv 16 = (q : Int) := by rw [Int.tdiv_eq_ediv_of_nonneg (by omega)]; omega
    repeat (first | refine VIf.tt ?_ | refine VIf.ff ?_)
    refine VArith.ok (by rw [ed]; omega) (by rw [ed]; omega) ?_
    have F := left_fn (gp tblR 5) q M (tbl_R (by decide))
    rw [← ed] at F
    repeat (first | refine VIf.tt ?_ | refine VIf.ff ?_)
    refine VFn.p F ?_
    repeat (first | refine VIf.tt ?_ | refine VIf.ff ?_)
    refine VFact.mk ⟨?_, rfl⟩ trivial
    unfold rayP
    rw [show (16 * q + 5) / 16 % 4 = q % 4 by omega, show (16 * q + 5) % 16 = 5 by omega]; rfl
  · obtain ⟨q, hq⟩ : ∃ q, k = 16 * q + 6 := ⟨k / 16, by omega⟩
    subst hq
    repeat (first | refine VIf.tt ?_ | refine VIf.ff ?_)
    refine VIdxR.mk 6 (by rw [Int.tmod_eq_emod_of_nonneg (by omega)]; omega) (by decide) ?_
    repeat (first | refine VIf.tt ?_ | refine VIf.ff ?_)
    refine VDiv.mk (by omega) ?_
    have ed : ((16 * q + 6 : Nat) : Int).tdiv 16 = (q : Int) := by rw [Int.tdiv_eq_ediv_of_nonneg (by omega)]; omega
    repeat (first | refine VIf.tt ?_ | refine VIf.ff ?_)
    refine VArith.ok (by rw [ed]; omega) (by rw [ed]; omega) ?_
    have F := left_fn (gp tblR 6) q M (tbl_R (by decide))
    rw [← ed] at F
    repeat (first | refine VIf.tt ?_ | refine VIf.ff ?_)
    refine VFn.p F ?_
    repeat (first | refine VIf.tt ?_ | refine VIf.ff ?_)
    refine VFact.mk ⟨?_, rfl⟩ trivial
    unfold rayP
    rw [show (16 * q + 6) / 16 % 4 = q % 4 by omega, show (16 * q + 6) % 16 = 6 by omega]; rfl
  · obtain ⟨q, hq⟩ : ∃ q, k = 16 * q + 7 := ⟨k / 16, by omega⟩
    subst hq
    repeat (first | refine VIf.tt ?_ | refine VIf.ff ?_)
    refine VIdxR.mk 7 (by rw [Int.tmod_eq_emod_of_nonneg (by omega)]; omega) (by decide) ?_
    repeat (first | refine VIf.tt ?_ | refine VIf.ff ?_)
    refine VDiv.mk (by omega) ?_
    have ed : ((16 * q + 7 : Nat) : Int).tdiv 16 = (q : Int) := by rw [Int.tdiv_eq_ediv_of_nonneg (by omega)]; omega
    repeat (first | refine VIf.tt ?_ | refine VIf.ff ?_)
    refine VArith.ok (by rw [ed]; omega) (by rw [ed]; omega) ?_
    have F := left_fn (gp tblR 7) q M (tbl_R (by decide))
    rw [← ed] at F
    repeat (first | refine VIf.tt ?_ | refine VIf.ff ?_)
    refine VFn.p F ?_
    repeat (first | refine VIf.tt ?_ | refine VIf.ff ?_)
    refine VFact.mk ⟨?_, rfl⟩ trivial
    unfold rayP
    rw [show (16 * q + 7) / 16 % 4 = q % 4 by omega, show (16 * q + 7) % 16 = 7 by omega]; rfl
  · obtain ⟨q, hq⟩ : ∃ q, k = 16 * q + 8 := ⟨k / 16, by omega⟩
    subst hq
    repeat (first | refine VIf.tt ?_ | refine VIf.ff ?_)
    refine VIdxR.mk 8 (by rw [Int.tmod_eq_emod_of_nonneg (by omega)]; omega) (by decide) ?_
    repeat (first | refine VIf.tt ?_ | refine VIf.ff ?_)
    refine VDiv.mk (by omega) ?_
    have ed : ((16 * q + 8 : Nat) : Int).tdiv 16 = (q : Int) := by rw [Int.tdiv_eq_ediv_of_nonneg (by omega)]; omega
    repeat (first | refine VIf.tt ?_ | refine VIf.ff ?_)
    refine VArith.ok (by rw [ed]; omega) (by rw [ed]; omega) ?_
    have F := left_fn (gp tblR 8) q M (tbl_R (by decide))
    rw [← ed] at F
    repeat (first | refine VIf.tt ?_ | refine VIf.ff ?_)
    refine VFn.p F ?_
    repeat (first | refine VIf.tt ?_ | refine VIf.ff ?_)
    refine VFact.mk ⟨?_, rfl⟩ trivial
    unfold rayP
    rw [show (16 * q + 8) / 16 % 4 = q % 4 by omega, show (16 * q + 8) % 16 = 8 by omega]; rfl
  · obtain ⟨q, hq⟩ : ∃ q, k = 16 * q + 9 := ⟨k / 16, by omega⟩
    subst hq
    repeat (first | refine VIf.tt ?_ | refine VIf.ff ?_)
    refine VIdxR.mk 9 (by rw [Int.tmod_eq_emod_of_nonneg (by omega)]; omega) (by decide) ?_
    repeat (first | refine VIf.tt ?_ | refine VIf.ff ?_)
    refine VDiv.mk (by omega) ?_
    have ed : ((16 * q + 9 : Nat) : Int).tdiv 16 = (q : Int) := by rw [Int.tdiv_eq_ediv_of_nonneg (by omega)]; omega
    repeat (first | refine VIf.tt ?_ | refine VIf.ff ?_)
    refine VArith.ok (by rw [ed]; omega) (by rw [ed]; omega) ?_
    have F := left_fn (gp tblR 9) q M (tbl_R (by decide))
    rw [← ed] at F
    repeat (first | refine VIf.tt ?_ | refine VIf.ff ?_)
    refine VFn.p F ?_
    repeat (first | refine VIf.tt ?_ | refine VIf.ff ?_)
    refine VFact.mk ⟨?_, rfl⟩ trivial
    unfold rayP
    rw [show (16 * q + 9) / 16 % 4 = q % 4 by omega, show (16 * q + 9) % 16 = 9 by omega]; rfl
  · obtain ⟨q, hq⟩ : ∃ q, k = 16 * q + 10 := ⟨k / 16, by omega⟩
    subst hq
    repeat (first | refine VIf.tt ?_ | refine VIf.ff ?_)
    refine VIdxR.mk 10 (by rw [Int.tmod_eq_emod_of_nonneg (by omega)]; omega) (by decide) ?_
    repeat (first | refine VIf.tt ?_ | refine VIf.ff ?_)
    refine VDiv.mk (by omega) ?_
    have ed : ((16 * q + 10 : Nat) : Int).tdiv 16 = (q : Int) := by rw [Int.tdiv_eq_ediv_of_nonneg (by omega)]; omega
    repeat (first | refine VIf.tt ?_ | refine VIf.ff ?_)
    refine VArith.ok (by rw [ed]; omega) (by rw [ed]; omega) ?_
    have F := left_fn (gp tblR 10) q M (tbl_R (by decide))
    rw [← ed] at F
    repeat (first | refine VIf.tt ?_ | refine VIf.ff ?_)
    refine VFn.p F ?_
    repeat (first | refine VIf.tt ?_ | refine VIf.ff ?_)
    refine VFact.mk ⟨?_, rfl⟩ trivial
    unfold rayP
    rw [show (16 * q + 10) / 16 % 4 = q % 4 by omega, show (16 * q + 10) % 16 = 10 by omega]; rfl
  · obtain ⟨q, hq⟩ : ∃ q, k = 16 * q + 11 := ⟨k / 16, by omega⟩
    subst hq
    repeat (first | refine VIf.tt ?_ | refine VIf.ff ?_)
    refine VIdxR.mk 11 (by rw [Int.tmod_eq_emod_of_nonneg (by omega)]; omega) (by decide) ?_
    repeat (first | refine VIf.tt ?_ | refine VIf.ff ?_)
    refine VDiv.mk (by omega) ?_
    have ed : ((16 * q + 11 : Nat) : Int).tdiv 16 = (q : Int) := by rw [Int.tdiv_eq_ediv_of_nonneg (by omega)]; omega
    repeat (first | refine VIf.tt ?_ | refine VIf.ff ?_)
    refine VArith.ok (by rw [ed]; omega) (by rw [ed]; omega) ?_
    have F := left_fn (gp tblR 11) q M (tbl_R (by decide))
    rw [← ed] at F
    repeat (first | refine VIf.tt ?_ | refine VIf.ff ?_)
    refine VFn.p F ?_
    repeat (first | refine VIf.tt ?_ | refine VIf.ff ?_)
    refine VFact.mk ⟨?_, rfl⟩ trivial
    unfold rayP
    rw [show (16 * q + 11) / 16 % 4 = q % 4 by omega, show (16 * q + 11) % 16 = 11 by omega]; rfl
  · obtain ⟨q, hq⟩ : ∃ q, k = 16 * q + 12 := ⟨k / 16, by omega⟩
    subst hq
    repeat (first | refine VIf.tt ?_ | refine VIf.ff ?_)
    refine VIdxR.mk 12 (by rw [Int.tmod_eq_emod_of_nonneg (by omega)]; omega) (by decide) ?_
    repeat (first | refine VIf.tt ?_ | refine VIf.ff ?_)
    refine VDiv.mk (by omega) ?_
    have ed : ((16 * q + 12 : Nat) : Int).tdiv 16 = (q : Int) := by rw [Int.tdiv_eq_ediv_of_nonneg (by omega)]; omega
    repeat (first | refine VIf.tt ?_ | refine VIf.ff ?_)
    refine VArith.ok (by rw [ed]; omega) (by rw [ed]; omega) ?_
    have F := left_fn (gp tblR 12) q M (tbl_R (by decide))
    rw [← ed] at F
    repeat (first | refine VIf.tt ?_ | refine VIf.ff ?_)
    refine VFn.p F ?_
    repeat (first | refine VIf.tt ?_ | refine VIf.ff ?_)
    refine VFact.mk ⟨?_, rfl⟩ trivial
    unfold rayP
    rw [show (16 * q + 12) / 16 % 4 = q % 4 by omega, show (16 * q + 12) % 16 = 12 by omega]; rfl
  · obtain ⟨q, hq⟩ : ∃ q, k = 16 * q + 13 := ⟨k / 16, by omega⟩
    subst hq
    repeat (first | refine VIf.tt ?_ | refine VIf.ff ?_)
    refine VIdxR.mk 13 (by rw [Int.tmod_eq_emod_of_nonneg (by omega)]; omega) (by decide) ?_
    repeat (first | refine VIf.tt ?_ | refine VIf.ff ?_)
    refine VDiv.mk (by omega) ?_
    have ed : ((16 * q + 13 : Nat) : Int).tdiv 16 = (q : Int) := by rw [Int.tdiv_eq_ediv_of_nonneg (by omega)]; omega
    repeat (first | refine VIf.tt ?_ | refine VIf.ff ?_)
    refine VArith.ok (by rw [ed]; omega) (by rw [ed]; omega) ?_
    have F := left_fn (gp tblR 13) q M (tbl_R (by decide))
    rw [← ed] at F
    repeat (first | refine VIf.tt ?_ | refine VIf.ff ?_)
    refine VFn.p F ?_
    repeat (first | refine VIf.tt ?_ | refine VIf.ff ?_)
    refine VFact.mk ⟨?_, rfl⟩ trivial
    unfold rayP
    rw [show (16 * q + 13) / 16 % 4 = q % 4 by omega, show (16 * q + 13) % 16 = 13 by omega]; rfl
  · obtain ⟨q, hq⟩ : ∃ q, k = 16 * q + 14 := ⟨k / 16, by omega⟩
    subst hq
    repeat (first | refine VIf.tt ?_ | refine VIf.ff ?_)
    refine VIdxR.mk 14 (by rw [Int.tmod_eq_emod_of_nonneg (by omega)]; omega) (by decide) ?_
    repeat (first | refine VIf.tt ?_ | refine VIf.ff ?_)
    refine VDiv.mk (by omega) ?_
    have ed : ((16 * q + 14 : Nat) : Int).tdiv 16 = (q : Int) := by rw [Int.tdiv_eq_ediv_of_nonneg (by omega)]; omega
    repeat (first | refine VIf.tt ?_ | refine VIf.ff ?_)
    refine VArith.ok (by rw [ed]; omega) (by rw [ed]; omega) ?_
    have F := left_fn (gp tblR 14) q M (tbl_R (by decide))
    rw [← ed] at F
    repeat (first | refine VIf.tt ?_ | refine VIf.ff ?_)
    refine VFn.p F ?_
    repeat (first | refine VIf.tt ?_ | refine VIf.ff ?_)
    refine VFact.mk ⟨?_, rfl⟩ trivial
    unfold rayP
    rw [show (16 * q + 14) / 16 % 4 = q % 4 by omega, show (16 * q + 14) % 16 = 14 by omega]; rfl
  · obtain ⟨q, hq⟩ : ∃ q, k = 16 * q + 15 := ⟨k / 16, by omega⟩
    subst hq
    repeat (first | refine VIf.tt ?_ | refine VIf.ff ?_)
    refine VIdxR.mk 15 (by rw [Int.tmod_eq_emod_of_nonneg (by omega)]; omega) (by decide) ?_
    repeat (first | refine VIf.tt ?_ | refine VIf.ff ?_)
    refine VDiv.mk (by omega) ?_
    have ed : ((16 * q + 15 : Nat) : Int).tdiv 16 = (q : Int) := by rw [Int.tdiv_eq_ediv_of_nonneg (by omega)]; omega
    repeat (first | refine VIf.tt ?_ | refine VIf.ff ?_)
    refine VArith.ok (by rw [ed]; omega) (by rw [ed]; omega) ?_
    have F := left_fn (gp tblR 15) q M (tbl_R (by decide))
    rw [← ed] at F
    repeat (first | refine VIf.tt ?_ | refine VIf.ff ?_)
    refine VFn.p F ?_
    repeat (first | refine VIf.tt ?_ | refine VIf.ff ?_)
    refine VFact.mk ⟨?_, rfl⟩ trivial
    unfold rayP
    rw [show (16 * q + 15) / 16 % 4 = q % 4 by omega, show (16 * q + 15) % 16 = 15 by omega]; rfl
end Go.Proofs.YtlppfikkgcfaoaaGreat

/- Tides, plainly: editions, what holds in a block and a slot, the least bounds of several. -/
namespace Go.Proofs.YtlppfikkgcfaoaaGreat
open Go
structure FlowS where
  x : Int
  y : Int
  s : Int
  ul : Int
  uh : Int
  vl : Int
  vh : Int
  hl : Int
  hh : Int
structure TideS where
  ver : Int
  fr : Int
  sl : Int
  rest : FlowS
  fl : List FlowS
def zeroF : FlowS := ⟨0, 0, 0, 0, 0, 0, 0, 0, 0⟩
def plainF (f : FlowS) : FlowS := ⟨0, 0, 0, f.ul, f.uh, f.vl, f.vh, f.hl, f.hh⟩
def spB (m lo hi : Int) : Bool := decide (lo ≤ hi ∧ -m ≤ lo ∧ hi ≤ m)
def bndB (f : FlowS) : Bool := spB 5000 f.ul f.uh && spB 5000 f.vl f.vh && spB 2000 f.hl f.hh
def cmpF (a b : FlowS) : Int := if cmpI a.s b.s ≠ 0 then cmpI a.s b.s else if cmpI a.y b.y ≠ 0 then cmpI a.y b.y else cmpI a.x b.x
def gf (l : List FlowS) (i : Nat) : FlowS := l.getD i zeroF
def flowB (t : TideS) (i : Nat) : Bool :=
  decide (-50 ≤ (gf t.fl i).x ∧ (gf t.fl i).x ≤ 50 ∧ -50 ≤ (gf t.fl i).y ∧ (gf t.fl i).y ≤ 50 ∧ 0 ≤ (gf t.fl i).s ∧ (gf t.fl i).s < t.sl) && bndB (gf t.fl i) && (i == 0 || decide (cmpF (gf t.fl (i - 1)) (gf t.fl i) < 0))
def tideB (t : TideS) : Bool :=
  decide (1 ≤ t.ver ∧ t.ver ≤ 1000000 ∧ 0 ≤ t.fr ∧ t.fr ≤ 1000000000 ∧ 0 ≤ t.sl ∧ t.sl ≤ 1000 ∧ t.fl.length ≤ 4000 ∧ t.rest.x = 0 ∧ t.rest.y = 0 ∧ t.rest.s = 0) && bndB t.rest && (List.range t.fl.length).all (flowB t)
def isKey (x y s : Int) (f : FlowS) : Bool := decide (f.x = x ∧ f.y = y ∧ f.s = s)
/-- What holds in a block and a slot. -/
def ofB (t : TideS) (x y s : Int) : FlowS := plainF ((t.fl.find? (isKey x y s)).getD t.rest)
def joinF (a b : FlowS) : FlowS := ⟨0, 0, 0, min a.ul b.ul, max a.uh b.uh, min a.vl b.vl, max a.vh b.vh, min a.hl b.hl, max a.hh b.hh⟩

/-! ### Order of flows -/
theorem cmpF_lt (a b : FlowS) : cmpF a b < 0 ↔ a.s < b.s ∨ a.s = b.s ∧ (a.y < b.y ∨ a.y = b.y ∧ a.x < b.x) := by
  have h1 := cmpI_sgn a.s b.s
  have h2 := cmpI_sgn a.y b.y
  have h3 := cmpI_sgn a.x b.x
  unfold cmpF
  split
  · rw [h1.1]
    have : a.s ≠ b.s := fun h => by rename_i e; exact e (h1.2.2 h)
    omega
  · have e1 : a.s = b.s := h1.2.1 (by rename_i e; omega)
    split
    · rw [h2.1]
      have : a.y ≠ b.y := fun h => by rename_i e; exact e (h2.2.2 h)
      omega
    · have e2 : a.y = b.y := h2.2.1 (by rename_i e; omega)
      rw [h3.1]; omega
theorem cmpF_eq (a b : FlowS) : cmpF a b = 0 ↔ a.x = b.x ∧ a.y = b.y ∧ a.s = b.s := by
  have h1 := cmpI_sgn a.s b.s
  have h2 := cmpI_sgn a.y b.y
  have h3 := cmpI_sgn a.x b.x
  unfold cmpF
  split
  · rename_i e
    exact ⟨fun h => absurd h e, fun h => absurd (h1.2.2 h.2.2) e⟩
  · have e1 : a.s = b.s := h1.2.1 (by rename_i e; omega)
    split
    · rename_i e
      exact ⟨fun h => absurd h e, fun h => absurd (h2.2.2 h.2.1) e⟩
    · have e2 : a.y = b.y := h2.2.1 (by rename_i e; omega)
      rw [h3.2]; omega

/-! ### The least bounds of several -/
structure IsJ (S : FlowS → Prop) (f : FlowS) : Prop where
  x : f.x = 0
  y : f.y = 0
  s : f.s = 0
  ul : (∀ g, S g → f.ul ≤ g.ul) ∧ ∃ g, S g ∧ g.ul = f.ul
  uh : (∀ g, S g → g.uh ≤ f.uh) ∧ ∃ g, S g ∧ g.uh = f.uh
  vl : (∀ g, S g → f.vl ≤ g.vl) ∧ ∃ g, S g ∧ g.vl = f.vl
  vh : (∀ g, S g → g.vh ≤ f.vh) ∧ ∃ g, S g ∧ g.vh = f.vh
  hl : (∀ g, S g → f.hl ≤ g.hl) ∧ ∃ g, S g ∧ g.hl = f.hl
  hh : (∀ g, S g → g.hh ≤ f.hh) ∧ ∃ g, S g ∧ g.hh = f.hh
theorem lo_unique {α : Type} {S T : α → Prop} {c : α → Int} {a b : Int} (hT : ∀ g, T g → S g) (h : (∀ g, S g → a ≤ c g) ∧ ∃ g, S g ∧ c g = a) (k : (∀ g, T g → b ≤ c g) ∧ ∃ g, T g ∧ c g = b) : a ≤ b := by
  obtain ⟨g, hg, e⟩ := k.2
  have := h.1 g (hT g hg)
  omega
theorem hi_unique {α : Type} {S T : α → Prop} {c : α → Int} {a b : Int} (hT : ∀ g, T g → S g) (h : (∀ g, S g → c g ≤ a) ∧ ∃ g, S g ∧ c g = a) (k : (∀ g, T g → c g ≤ b) ∧ ∃ g, T g ∧ c g = b) : b ≤ a := by
  obtain ⟨g, hg, e⟩ := k.2
  have := h.1 g (hT g hg)
  omega
/-- Bounds within others. -/
def inF (a b : FlowS) : Prop := b.ul ≤ a.ul ∧ a.uh ≤ b.uh ∧ b.vl ≤ a.vl ∧ a.vh ≤ b.vh ∧ b.hl ≤ a.hl ∧ a.hh ≤ b.hh
theorem IsJ.le {S T : FlowS → Prop} {f g : FlowS} (h : IsJ S f) (k : IsJ T g) (hT : ∀ x, T x → S x) : inF g f :=
  ⟨lo_unique hT h.ul k.ul, hi_unique hT h.uh k.uh, lo_unique hT h.vl k.vl, hi_unique hT h.vh k.vh, lo_unique hT h.hl k.hl, hi_unique hT h.hh k.hh⟩
theorem IsJ.unique {S T : FlowS → Prop} {f g : FlowS} (h : IsJ S f) (k : IsJ T g) (hT : ∀ x, T x ↔ S x) : f = g := by
  have h1 := h.le k fun x hx => (hT x).1 hx
  have h2 := k.le h fun x hx => (hT x).2 hx
  unfold inF at h1 h2
  have a1 := h.x; have a2 := h.y; have a3 := h.s; have b1 := k.x; have b2 := k.y; have b3 := k.s
  cases f; cases g
  simp only at *
  simp only [FlowS.mk.injEq]
  omega
theorem IsJ.mem {S : FlowS → Prop} {f g : FlowS} (h : IsJ S f) (hg : S g) : inF g f := ⟨h.ul.1 g hg, h.uh.1 g hg, h.vl.1 g hg, h.vh.1 g hg, h.hl.1 g hg, h.hh.1 g hg⟩
theorem IsJ.congr {S T : FlowS → Prop} {f : FlowS} (h : IsJ S f) (hT : ∀ x, T x ↔ S x) : IsJ T f := by
  have : T = S := funext fun x => propext (hT x)
  rw [this]; exact h
theorem IsJ.one {f : FlowS} (hx : f.x = 0) (hy : f.y = 0) (hs : f.s = 0) : IsJ (· = f) f :=
  ⟨hx, hy, hs, ⟨fun _ h => by rw [h]; exact Int.le_refl _, _, rfl, rfl⟩, ⟨fun _ h => by rw [h]; exact Int.le_refl _, _, rfl, rfl⟩, ⟨fun _ h => by rw [h]; exact Int.le_refl _, _, rfl, rfl⟩, ⟨fun _ h => by rw [h]; exact Int.le_refl _, _, rfl, rfl⟩, ⟨fun _ h => by rw [h]; exact Int.le_refl _, _, rfl, rfl⟩, ⟨fun _ h => by rw [h]; exact Int.le_refl _, _, rfl, rfl⟩⟩
theorem lo_join {α : Type} {S T : α → Prop} {c : α → Int} {a b : Int} (h : (∀ g, S g → a ≤ c g) ∧ ∃ g, S g ∧ c g = a) (k : (∀ g, T g → b ≤ c g) ∧ ∃ g, T g ∧ c g = b) : (∀ g, S g ∨ T g → min a b ≤ c g) ∧ ∃ g, (S g ∨ T g) ∧ c g = min a b := by
  refine ⟨fun g hg => ?_, ?_⟩
  · rcases hg with hg | hg
    · have := h.1 g hg; omega
    · have := k.1 g hg; omega
  · by_cases e : a ≤ b
    · obtain ⟨g, hg, h1⟩ := h.2
      exact ⟨g, .inl hg, by omega⟩
    · obtain ⟨g, hg, h1⟩ := k.2
      exact ⟨g, .inr hg, by omega⟩
theorem hi_join {α : Type} {S T : α → Prop} {c : α → Int} {a b : Int} (h : (∀ g, S g → c g ≤ a) ∧ ∃ g, S g ∧ c g = a) (k : (∀ g, T g → c g ≤ b) ∧ ∃ g, T g ∧ c g = b) : (∀ g, S g ∨ T g → c g ≤ max a b) ∧ ∃ g, (S g ∨ T g) ∧ c g = max a b := by
  refine ⟨fun g hg => ?_, ?_⟩
  · rcases hg with hg | hg
    · have := h.1 g hg; omega
    · have := k.1 g hg; omega
  · by_cases e : b ≤ a
    · obtain ⟨g, hg, h1⟩ := h.2
      exact ⟨g, .inl hg, by omega⟩
    · obtain ⟨g, hg, h1⟩ := k.2
      exact ⟨g, .inr hg, by omega⟩
theorem IsJ.join {S T : FlowS → Prop} {f g : FlowS} (h : IsJ S f) (k : IsJ T g) : IsJ (fun x => S x ∨ T x) (joinF f g) :=
  ⟨rfl, rfl, rfl, lo_join h.ul k.ul, hi_join h.uh k.uh, lo_join h.vl k.vl, hi_join h.vh k.vh, lo_join h.hl k.hl, hi_join h.hh k.hh⟩
theorem IsJ.bnd {S : FlowS → Prop} {f : FlowS} (h : IsJ S f) (hS : ∀ g, S g → bndB g = true) : bndB f = true := by
  obtain ⟨g1, k1, e1⟩ := h.ul.2
  obtain ⟨g2, k2, e2⟩ := h.uh.2
  obtain ⟨g3, k3, e3⟩ := h.vl.2
  obtain ⟨g4, k4, e4⟩ := h.vh.2
  obtain ⟨g5, k5, e5⟩ := h.hl.2
  obtain ⟨g6, k6, e6⟩ := h.hh.2
  have b1 := hS _ k1; have b2 := hS _ k2; have b3 := hS _ k3; have b4 := hS _ k4; have b5 := hS _ k5; have b6 := hS _ k6
  have c1 := h.uh.1 _ k1; have c3 := h.vh.1 _ k3; have c5 := h.hh.1 _ k5
  simp only [bndB, spB, Bool.and_eq_true, decide_eq_true_eq] at b1 b2 b3 b4 b5 b6 ⊢
  omega

/-! ### What holds -/
theorem of_plain (t : TideS) (x y s : Int) : (ofB t x y s).x = 0 ∧ (ofB t x y s).y = 0 ∧ (ofB t x y s).s = 0 := ⟨rfl, rfl, rfl⟩
theorem all_range {n : Nat} {p : Nat → Bool} : (List.range n).all p = true ↔ ∀ i, i < n → p i = true := by simp [List.all_eq_true]
theorem gf_mem {l : List FlowS} {f : FlowS} (h : f ∈ l) : ∃ i, i < l.length ∧ gf l i = f := by
  obtain ⟨i, hi, e⟩ := List.mem_iff_getElem.1 h
  exact ⟨i, hi, by simp [gf, hi, e]⟩
theorem gf_in {l : List FlowS} {i : Nat} (h : i < l.length) : gf l i ∈ l := by
  have : gf l i = l[i] := by simp [gf, h]
  rw [this]; exact List.getElem_mem h
theorem tide_get {t : TideS} (h : tideB t = true) : (1 ≤ t.ver ∧ t.ver ≤ 1000000 ∧ 0 ≤ t.fr ∧ t.fr ≤ 1000000000 ∧ 0 ≤ t.sl ∧ t.sl ≤ 1000 ∧ t.fl.length ≤ 4000 ∧ t.rest.x = 0 ∧ t.rest.y = 0 ∧ t.rest.s = 0) ∧ bndB t.rest = true ∧ ∀ i, i < t.fl.length → flowB t i = true := by
  simp only [tideB, Bool.and_eq_true, decide_eq_true_eq, all_range] at h
  exact ⟨h.1.1, h.1.2, h.2⟩
theorem tide_flow {t : TideS} (h : tideB t = true) {f : FlowS} (hf : f ∈ t.fl) : bndB f = true ∧ 0 ≤ f.s ∧ f.s < t.sl := by
  obtain ⟨i, hi, rfl⟩ := gf_mem hf
  have := (tide_get h).2.2 i hi
  simp only [flowB, Bool.and_eq_true, decide_eq_true_eq] at this
  exact ⟨this.1.2, this.1.1.2.2.2.2.1, this.1.1.2.2.2.2.2⟩
theorem bnd_plain (f : FlowS) : bndB (plainF f) = bndB f := rfl
theorem of_bnd {t : TideS} (h : tideB t = true) (x y s : Int) : bndB (ofB t x y s) = true := by
  unfold ofB
  rw [bnd_plain]
  cases hf : t.fl.find? (isKey x y s) with
  | none => exact (tide_get h).2.1
  | some f => exact (tide_flow h (List.mem_of_find?_eq_some hf)).1
/-- The flows are in order. -/
theorem tide_lt {t : TideS} (h : tideB t = true) : ∀ j i, i < j → j < t.fl.length → cmpF (gf t.fl i) (gf t.fl j) < 0 := by
  intro j
  induction j with
  | zero => intro i hi; omega
  | succ j ih =>
    intro i hi hj
    have h1 := (tide_get h).2.2 (j + 1) hj
    simp only [flowB, Bool.and_eq_true, Bool.or_eq_true, decide_eq_true_eq, beq_iff_eq] at h1
    have hs : cmpF (gf t.fl j) (gf t.fl (j + 1)) < 0 := by
      rcases h1.2 with h | h
      · omega
      · exact h
    by_cases e : i = j
    · rw [e]; exact hs
    · have := ih i (by omega) (by omega)
      rw [cmpF_lt] at this hs ⊢
      omega
theorem find_at {t : TideS} (h : tideB t = true) {i : Nat} (hi : i < t.fl.length) {x y s : Int} (hk : isKey x y s (gf t.fl i) = true) : t.fl.find? (isKey x y s) = some (gf t.fl i) := by
  cases hf : t.fl.find? (isKey x y s) with
  | none => have := List.find?_eq_none.1 hf _ (gf_in hi); exact absurd hk this
  | some f =>
    obtain ⟨j, hj, e⟩ := gf_mem (List.mem_of_find?_eq_some hf)
    have h2 := List.find?_some hf
    simp only [isKey, decide_eq_true_eq] at hk h2
    rcases Nat.lt_trichotomy i j with c | c | c
    · have := (cmpF_lt _ _).1 (tide_lt h j i c hj); rw [e] at this; omega
    · subst c; rw [e]
    · have := (cmpF_lt _ _).1 (tide_lt h i j c hi); rw [e] at this; omega
/-- Outside of the slots of an edition its rest holds. -/
theorem of_out {t : TideS} (h : tideB t = true) {x y s : Int} (hs : s < 0 ∨ t.sl ≤ s) : ofB t x y s = plainF t.rest := by
  unfold ofB
  have : t.fl.find? (isKey x y s) = none := List.find?_eq_none.2 fun f hf => by
    have := (tide_flow h hf).2
    simp only [isKey, decide_eq_true_eq]; omega
  rw [this]; rfl
def clipS (t : TideS) (s : Int) : Int := max (-1) (min s t.sl)
theorem of_clip {t : TideS} (h : tideB t = true) (x y s : Int) : ofB t x y (clipS t s) = ofB t x y s := by
  have h1 := (tide_get h).1
  unfold clipS
  by_cases c : s < 0
  · rw [of_out h (.inl c), of_out h (.inl (by omega))]
  · by_cases d : t.sl ≤ s
    · rw [of_out h (.inr d), of_out h (.inr (by omega))]
    · congr 1; omega
/-- What holds in a rectangle of blocks and some slots. -/
def inB (t : TideS) (x1 x2 y1 y2 s1 s2 : Int) (g : FlowS) : Prop := ∃ x y s, x1 ≤ x ∧ x ≤ x2 ∧ y1 ≤ y ∧ y ≤ y2 ∧ s1 ≤ s ∧ s ≤ s2 ∧ g = ofB t x y s
theorem inB_clip {t : TideS} (h : tideB t = true) {x1 x2 y1 y2 s1 s2 : Int} (hs : s1 ≤ s2) (g : FlowS) : inB t x1 x2 y1 y2 (clipS t s1) (clipS t s2) g ↔ inB t x1 x2 y1 y2 s1 s2 g := by
  have h1 := (tide_get h).1
  constructor
  · rintro ⟨x, y, s, a1, a2, a3, a4, a5, a6, rfl⟩
    unfold clipS at a5 a6
    by_cases c : s < s1
    · refine ⟨x, y, s1, a1, a2, a3, a4, Int.le_refl _, hs, ?_⟩
      rw [of_out h (by omega), of_out h (by omega)]
    · by_cases d : s2 < s
      · refine ⟨x, y, s2, a1, a2, a3, a4, hs, Int.le_refl _, ?_⟩
        rw [of_out h (by omega), of_out h (by omega)]
      · exact ⟨x, y, s, a1, a2, a3, a4, by omega, by omega, rfl⟩
  · rintro ⟨x, y, s, a1, a2, a3, a4, a5, a6, rfl⟩
    exact ⟨x, y, clipS t s, a1, a2, a3, a4, by unfold clipS; omega, by unfold clipS; omega, (of_clip h x y s).symm⟩
end Go.Proofs.YtlppfikkgcfaoaaGreat

/- Contracts of exact, span, and of the leaves of tide. -/
namespace Go.Proofs.YtlppfikkgcfaoaaGreat
open Go Go.V Go.RowKit
theorem div_spec {a b : Int} (hb : 0 < b) : (a.tmod b < 0 → a.tdiv b - 1 = a / b ∧ a.tmod b + b = a % b) ∧ (0 ≤ a.tmod b → a.tdiv b = a / b ∧ a.tmod b = a % b) := by
  have h1 := Int.tmod_add_mul_tdiv a b
  have h2 := Int.tmod_lt_of_pos a hb
  have h3 : -b < a.tmod b := by
    by_cases ha : 0 ≤ a
    · have := Int.tmod_nonneg b ha; omega
    · have h := Int.tmod_lt_of_pos (-a) hb
      rw [Int.neg_tmod] at h; omega
  refine ⟨fun h => ?_, fun h => ?_⟩
  · have := (Int.ediv_emod_unique hb (a := a) (r := a.tmod b + b) (q := a.tdiv b - 1)).2 ⟨by rw [Int.mul_sub]; omega, by omega, by omega⟩
    exact ⟨this.1.symm, this.2.symm⟩
  · have := (Int.ediv_emod_unique hb (a := a) (r := a.tmod b) (q := a.tdiv b)).2 ⟨by omega, by omega, by omega⟩
    exact ⟨this.1.symm, this.2.symm⟩
theorem tdiv_bd {a b : Int} (hb : 0 < b) (h1 : -1000000000000 ≤ a) (h2 : a ≤ 1000000000000) : -1000000000001 ≤ a.tdiv b ∧ a.tdiv b ≤ 1000000000000 := by
  have hq : -1000000000000 ≤ a / b ∧ a / b ≤ 1000000000000 := by
    constructor
    · have := (Int.le_ediv_iff_mul_le hb (a := -1000000000000) (b := a)).2 (by
        have : (1000000000000 : Int) * 1 ≤ 1000000000000 * b := Int.mul_le_mul_of_nonneg_left (by omega) (by omega)
        omega)
      exact this
    · have := Int.ediv_le_of_le_mul hb (a := a) (b := 1000000000000) (by
        have : (1000000000000 : Int) * 1 ≤ 1000000000000 * b := Int.mul_le_mul_of_nonneg_left (by omega) (by omega)
        omega)
      exact this
  rcases Int.lt_or_le (a.tmod b) 0 with h | h
  · have h := (div_spec hb).1 h
    have h1 := Int.tmod_add_mul_tdiv a b
    have h3 : 0 ≤ a → 0 ≤ a.tmod b := Int.tmod_nonneg b
    by_cases c : a.tdiv b ≤ 1000000000000
    · omega
    · have : (0 : Int) * b ≤ a.tdiv b * b := Int.mul_le_mul_of_nonneg_right (by omega) (by omega)
      have e : a.tdiv b * b = b * a.tdiv b := Int.mul_comm _ _
      have h4 := Int.tmod_lt_of_pos (-a) hb
      rw [Int.neg_tmod] at h4
      have : (1000000000001 : Int) * b ≤ a.tdiv b * b := Int.mul_le_mul_of_nonneg_right (by omega) (by omega)
      omega
  · have := (div_spec hb).2 h; omega
theorem wide_fn (n : Int) (M : Mem) : FnP Tryz.prog 73 [.int .i64 n] M [.bool (decide (-1000000000000 ≤ n ∧ n ≤ 1000000000000))] := by
  refine Fn.of_vc cxOK Tryz.func73 rfl rfl rfl ?_
  repeat' (first | refine VIf.tt ?_ | refine VIf.ff ?_ | refine VIf.mk (fun _ => ?_) (fun _ => ?_) | refine VFact.mk ?_ trivial)
  all_goals (refine ⟨bool1 ?_, rfl⟩; simp only [Bool.and_eq_true, decide_eq_true_eq, decide_eq_false_iff_not, Bool.false_eq_true, false_iff] at *; omega)
theorem wide_ok (n : Int) (M : Mem) (h1 : -1000000000000 ≤ n) (h2 : n ≤ 1000000000000) : FnP Tryz.prog 73 [.int .i64 n] M [.bool true] := by
  have := wide_fn n M
  rw [decide_eq_true ⟨h1, h2⟩] at this
  exact this
theorem floor1_fn (q r : Int) (M : Mem) : FnP Tryz.prog 56 [.agg #[.int .i64 q, .int .i64 r]] M [.int .i64 q] := by
  refine Fn.of_vc cxOK Tryz.func56 rfl rfl rfl ?_
  repeat (first | refine VIf.tt ?_ | refine VIf.ff ?_)
  exact VFact.mk ⟨rfl, rfl⟩ trivial
theorem divide_fn (a b : Int) (M : Mem) (hb : 0 < b) (hb' : b ≤ 1000000000000) (h1 : -1000000000000 ≤ a) (h2 : a ≤ 1000000000000) : FnP Tryz.prog 74 [.int .i64 a, .int .i64 b] M [.agg #[.int .i64 (a / b), .int .i64 (a % b)]] := by
  have hq := tdiv_bd hb h1 h2
  have hs := div_spec (a := a) hb
  have hm := Int.tmod_lt_of_pos a hb
  refine Fn.of_vc cxOK Tryz.func74 rfl rfl rfl ?_
  repeat (first | refine VIf.tt ?_ | refine VIf.ff ?_)
  refine VDraw.go (by kernel_rfl) ?_
  repeat (first | refine VIf.tt ?_ | refine VIf.ff ?_)
  refine VDiv.mk (by omega) ?_
  repeat (first | refine VIf.tt ?_ | refine VIf.ff ?_)
  refine VArith.ok (by first | omega | (simp only; omega)) (by first | omega | (simp only; omega)) ?_
  repeat (first | refine VIf.tt ?_ | refine VIf.ff ?_)
  refine VDiv.mk (by omega) ?_
  have hbf : decide (b < 0) = false := decide_eq_false (by omega)
  repeat (first | refine VIf.tt ?_ | refine VIf.ff ?_)
  refine VIf.mk (fun h => ?_) (fun h => ?_)
  · repeat (first | refine VIf.tt ?_ | refine VIf.ff ?_)
    refine VIf.mk (fun h => ?_) (fun h => ?_)
    · have hneg : a.tmod b < 0 := by
        rw [hbf] at h; simpa using h
      have he := Int.emod_nonneg a (b := b) (by omega)
      have := hs.1 hneg
      repeat (first | refine VIf.tt ?_ | refine VIf.ff ?_)
      refine VArith.ok (by first | omega | (simp only; omega)) (by first | omega | (simp only; omega)) ?_
      repeat (first | refine VIf.tt ?_ | refine VIf.ff ?_)
      refine VArith.ok (by first | omega | (simp only; omega)) (by first | omega | (simp only; omega)) ?_
      repeat (first | refine VIf.tt ?_ | refine VIf.ff ?_)
      exact VFact.mk ⟨by rw [this.1, this.2], rfl⟩ trivial
    · have hpos : 0 ≤ a.tmod b := by
        rw [hbf] at h; simpa using h
      have := hs.2 hpos
      repeat (first | refine VIf.tt ?_ | refine VIf.ff ?_)
      exact VFact.mk ⟨by rw [this.1, this.2], rfl⟩ trivial
  · have hz : a.tmod b = 0 := bne_eq_false_iff_eq.1 h
    have := hs.2 (by omega)
    repeat (first | refine VIf.tt ?_ | refine VIf.ff ?_)
    exact VFact.mk ⟨by rw [this.1, this.2], rfl⟩ trivial
theorem checked_fn (a b : Int) (M : Mem) (hb : 0 < b) (hb' : b ≤ 1000000000000) (h1 : -1000000000000 ≤ a) (h2 : a ≤ 1000000000000) : FnP Tryz.prog 55 [.int .i64 a, .int .i64 b, .func (.func 56) #[] #[]] M [.int .i64 (a / b), .int .i64 0] := by
  refine Fn.of_vc cxOK Tryz.func55 rfl rfl rfl ?_
  repeat (first | refine VIf.tt ?_ | refine VIf.ff ?_)
  refine VFn.p (wide_ok a M h1 h2) ?_
  repeat (first | refine VIf.tt ?_ | refine VIf.ff ?_)
  repeat (first | refine VIf.tt ?_ | refine VIf.ff ?_)
  refine VFn.p (wide_ok b M (by omega) hb') ?_
  repeat (first | refine VIf.tt ?_ | refine VIf.ff ?_)
  repeat (first | refine VIf.tt ?_ | refine VIf.ff ?_)
  refine VIf.mk (fun h => absurd (eq_of_beq h) (by omega)) (fun h => ?_)
  repeat (first | refine VIf.tt ?_ | refine VIf.ff ?_)
  refine VFn.p (divide_fn a b M hb hb' h1 h2) ?_
  repeat (first | refine VIf.tt ?_ | refine VIf.ff ?_)
  refine VFn.p (floor1_fn _ _ M) ?_
  repeat (first | refine VIf.tt ?_ | refine VIf.ff ?_)
  exact VFact.mk ⟨rfl, rfl⟩ trivial
theorem Floor_fn (a b : Int) (M : Mem) (hb : 0 < b) (hb' : b ≤ 1000000000000) (h1 : -1000000000000 ≤ a) (h2 : a ≤ 1000000000000) : FnP Tryz.prog 41 [.int .i64 a, .int .i64 b] M [.int .i64 (a / b), .int .i64 0] := by
  refine Fn.of_vc cxOK Tryz.func41 rfl rfl rfl ?_
  repeat (first | refine VIf.tt ?_ | refine VIf.ff ?_)
  refine VFn.p (checked_fn a b M hb hb' h1 h2) ?_
  repeat (first | refine VIf.tt ?_ | refine VIf.ff ?_)
  exact VFact.mk ⟨rfl, rfl⟩ trivial
def flV (f : FlowS) : Value := .agg #[.int .i64 f.x, .int .i64 f.y, .int .i64 f.s, .int .i64 f.ul, .int .i64 f.uh, .int .i64 f.vl, .int .i64 f.vh, .int .i64 f.hl, .int .i64 f.hh]
theorem zeroFl : (Value.agg #[.int .i64 0, .int .i64 0, .int .i64 0, .int .i64 0, .int .i64 0, .int .i64 0, .int .i64 0, .int .i64 0, .int .i64 0]) = flV zeroF := rfl
end Go.Proofs.YtlppfikkgcfaoaaGreat

/- Contracts of tide: valid editions, searching flows, what holds. -/
namespace Go.Proofs.YtlppfikkgcfaoaaGreat
open Go Go.V Go.RowKit
def flC (f : FlowS) : List Value := [.int .i64 f.x, .int .i64 f.y, .int .i64 f.s, .int .i64 f.ul, .int .i64 f.uh, .int .i64 f.vl, .int .i64 f.vh, .int .i64 f.hl, .int .i64 f.hh]
def FlowD (_ : Mem) (f : FlowS) (r : List Value) : Prop := r = flC f
def FlsV (M : Mem) (v : Value) (l : List FlowS) : Prop := Arr FlowD M 9 v l
theorem FlsV.le {M M' : Mem} {v : Value} {l : List FlowS} (h : FlsV M v l) (hM : M.le M') : FlsV M' v l := Arr.le (fun _ _ _ _ _ h => h) h hM
theorem FlsV.get {M : Mem} {v : Value} {l : List FlowS} (h : FlsV M v l) : ∃ ad c, v = .slice ad l.length c ∧ l.length ≤ 9223372036854775807 ∧ ∀ M', M.le M' → ∀ i, i < l.length → ∃ ad', ad = some ad' ∧ ∀ j v, (flC (gf l i))[j]? = some v → M'.cell ((ad'.add (i * 9)).add j) = some v := by
  obtain ⟨ad, c, h1, h2, h3⟩ := Arr.get h
  refine ⟨ad, c, h1, h2, fun M' hM i hi => ?_⟩
  obtain ⟨ad', r, h4, _, rfl, h6⟩ := h3 i _ (getD_get zeroF hi)
  exact ⟨ad', h4, fun j y hy => h6 M' hM j y hy⟩
def tdV (t : TideS) (v : Value) : Value := .agg #[.int .i64 t.ver, .int .i64 t.fr, .int .i64 t.sl, .int .i64 t.rest.x, .int .i64 t.rest.y, .int .i64 t.rest.s, .int .i64 t.rest.ul, .int .i64 t.rest.uh, .int .i64 t.rest.vl, .int .i64 t.rest.vh, .int .i64 t.rest.hl, .int .i64 t.rest.hh, v]
theorem noT {b : Bool} (h : b = true → False) : [Value.bool false] = [.bool b] := by
  cases b with
  | true => exact (h rfl).elim
  | false => rfl
end Go.Proofs.YtlppfikkgcfaoaaGreat

/- Contracts of tide: the search for a flow, what holds in a block and a slot. -/
namespace Go.Proofs.YtlppfikkgcfaoaaGreat
open Go Go.V Go.RowKit
def Srt (l : List FlowS) : Prop := ∀ j i, i < j → j < l.length → cmpF (gf l i) (gf l j) < 0
theorem srt_lo {l : List FlowS} (hs : Srt l) {k : FlowS} {h : Nat} (hh : h < l.length) (hc : cmpF (gf l h) k < 0) : ∀ i, i ≤ h → cmpF (gf l i) k < 0 := fun i hi => by
  by_cases e : i = h
  · rw [e]; exact hc
  · have := hs h i (by omega) hh
    rw [cmpF_lt] at this hc ⊢
    omega
theorem srt_hi {l : List FlowS} (hs : Srt l) {k : FlowS} {h : Nat} (hc : ¬ cmpF (gf l h) k < 0) : ∀ i, h ≤ i → i < l.length → ¬ cmpF (gf l i) k < 0 := fun i hi hn => by
  by_cases e : i = h
  · rw [e]; exact hc
  · have := hs i h (by omega) hn
    rw [cmpF_lt] at this hc ⊢
    omega
theorem half_eq (a : Int) : Int.fdiv a (2 ^ min (Int.toNat 1) (IntKind.bits .u64)) = a / 2 := by
  show Int.fdiv a 2 = a / 2
  exact Int.fdiv_eq_ediv_of_nonneg a (by omega)
end Go.Proofs.YtlppfikkgcfaoaaGreat

/- Contracts of tide: what holds in a block and a slot; at a place and a time; blocks of a rectangle. -/
namespace Go.Proofs.YtlppfikkgcfaoaaGreat
open Go Go.V Go.RowKit
theorem isCb_bd {n : Int} (h : isCb n = true) : -500000 ≤ n ∧ n ≤ 500000 := by simpa [isCb] using h
def rng (a b : Int) : List Int := (List.range (b - a + 1).toNat).map fun (k : Nat) => a + (k : Int)
theorem rng_mem {a b x : Int} : x ∈ rng a b ↔ a ≤ x ∧ x ≤ b := by
  unfold rng
  simp only [List.mem_map, List.mem_range]
  constructor
  · rintro ⟨k, hk, rfl⟩; omega
  · intro h; exact ⟨(x - a).toNat, by omega, by omega⟩
theorem rng_cons {a b : Int} (h : a ≤ b) : rng a b = a :: rng (a + 1) b := by
  unfold rng
  have e : (b - a + 1).toNat = (b - (a + 1) + 1).toNat + 1 := by omega
  rw [e, List.range_succ_eq_map, List.map_cons, List.map_map]
  refine congr (congrArg List.cons (by simp)) (List.map_congr_left fun k _ => ?_)
  simp only [Function.comp]; omega
theorem rng_nil {a b : Int} (h : b < a) : rng a b = [] := by
  unfold rng
  have e : (b - a + 1).toNat = 0 := by omega
  rw [e]; rfl
def rowL (t : TideS) (x1 x2 y s : Int) : List FlowS := (rng x1 x2).map fun x => ofB t x y s
def blkL (t : TideS) (x1 x2 y1 y2 s : Int) : List FlowS := (rng y1 y2).flatMap fun y => rowL t x1 x2 y s
theorem row_cons {t : TideS} {x1 x2 y s : Int} (h : x1 ≤ x2) : rowL t x1 x2 y s = ofB t x1 y s :: rowL t (x1 + 1) x2 y s := by unfold rowL; rw [rng_cons h]; rfl
theorem row_nil {t : TideS} {x1 x2 y s : Int} (h : x2 < x1) : rowL t x1 x2 y s = [] := by unfold rowL; rw [rng_nil h]; rfl
theorem blk_cons {t : TideS} {x1 x2 y1 y2 s : Int} (h : y1 ≤ y2) : blkL t x1 x2 y1 y2 s = rowL t x1 x2 y1 s ++ blkL t x1 x2 (y1 + 1) y2 s := by unfold blkL; rw [rng_cons h]; rfl
theorem blk_nil {t : TideS} {x1 x2 y1 y2 s : Int} (h : y2 < y1) : blkL t x1 x2 y1 y2 s = [] := by unfold blkL; rw [rng_nil h]; rfl
theorem blk_mem {t : TideS} {x1 x2 y1 y2 s : Int} {g : FlowS} : g ∈ blkL t x1 x2 y1 y2 s ↔ inB t x1 x2 y1 y2 s s g := by
  unfold blkL rowL inB
  simp only [List.mem_flatMap, List.mem_map, rng_mem]
  constructor
  · rintro ⟨y, hy, x, hx, rfl⟩
    exact ⟨x, y, s, hx.1, hx.2, hy.1, hy.2, Int.le_refl _, Int.le_refl _, rfl⟩
  · rintro ⟨x, y, s', a1, a2, a3, a4, a5, a6, rfl⟩
    obtain rfl : s' = s := by omega
    exact ⟨y, ⟨a3, a4⟩, x, ⟨a1, a2⟩, rfl⟩
end Go.Proofs.YtlppfikkgcfaoaaGreat

/- Contracts of tide: the blocks of a rectangle. -/
namespace Go.Proofs.YtlppfikkgcfaoaaGreat
open Go Go.V Go.RowKit
def tdC (t : TideS) (v : Value) : Array Value := #[.int .i64 t.ver, .int .i64 t.fr, .int .i64 t.sl, .int .i64 t.rest.x, .int .i64 t.rest.y, .int .i64 t.rest.s, .int .i64 t.rest.ul, .int .i64 t.rest.uh, .int .i64 t.rest.vl, .int .i64 t.rest.vh, .int .i64 t.rest.hl, .int .i64 t.rest.hh, v]
end Go.Proofs.YtlppfikkgcfaoaaGreat

/- Contracts of span.Join and tide.join. -/
namespace Go.Proofs.YtlppfikkgcfaoaaGreat
open Go Go.V Go.RowKit
def spOK (p : Pt) : Prop := p.1 ≤ p.2 ∧ -1000000000000 ≤ p.1 ∧ p.2 ≤ 1000000000000
def mnL (xs : List Int) (k : Nat) : Int := (xs.take k).foldl min (xs.getD 0 0)
def mxL (xs : List Int) (k : Nat) : Int := (xs.take k).foldl max (xs.getD 0 0)
theorem mn_step {xs : List Int} {k : Nat} (h : k < xs.length) : mnL xs (k + 1) = min (mnL xs k) (xs.getD k 0) := by
  unfold mnL
  rw [List.take_add_one, List.foldl_append]
  simp [h]
theorem mx_step {xs : List Int} {k : Nat} (h : k < xs.length) : mxL xs (k + 1) = max (mxL xs k) (xs.getD k 0) := by
  unfold mxL
  rw [List.take_add_one, List.foldl_append]
  simp [h]
theorem mn_one {xs : List Int} (h : 0 < xs.length) : mnL xs 1 = xs.getD 0 0 := by
  rw [mn_step h]; simp [mnL]
theorem mx_one {xs : List Int} (h : 0 < xs.length) : mxL xs 1 = xs.getD 0 0 := by
  rw [mx_step h]; simp [mxL]
end Go.Proofs.YtlppfikkgcfaoaaGreat

/- Contracts of tide: bounds of all that is ranged over. -/
namespace Go.Proofs.YtlppfikkgcfaoaaGreat
open Go Go.V Go.RowKit
end Go.Proofs.YtlppfikkgcfaoaaGreat

/- Contracts of tide: Bound. -/
namespace Go.Proofs.YtlppfikkgcfaoaaGreat
open Go Go.V Go.RowKit
def joinL : List FlowS → FlowS
  | [] => zeroF
  | f :: l => l.foldl joinF f
theorem fold_isJ : ∀ (l : List FlowS) (S : FlowS → Prop) (f : FlowS), IsJ S f → (∀ g ∈ l, g.x = 0 ∧ g.y = 0 ∧ g.s = 0) → IsJ (fun x => S x ∨ x ∈ l) (l.foldl joinF f)
  | [], S, f, h, _ => h.congr fun x => by simp
  | g :: l, S, f, h, hp => by
    obtain ⟨p1, p2, p3⟩ := hp g List.mem_cons_self
    exact (fold_isJ l _ _ (h.join (IsJ.one p1 p2 p3)) fun g hg => hp g (List.mem_cons_of_mem _ hg)).congr fun x => by simp [or_assoc]
theorem joinL_isJ {l : List FlowS} (hne : l ≠ []) (hp : ∀ g ∈ l, g.x = 0 ∧ g.y = 0 ∧ g.s = 0) : IsJ (· ∈ l) (joinL l) := by
  cases l with
  | nil => exact absurd rfl hne
  | cons f l =>
    obtain ⟨p1, p2, p3⟩ := hp f List.mem_cons_self
    exact (fold_isJ l _ _ (IsJ.one p1 p2 p3) fun g hg => hp g (List.mem_cons_of_mem _ hg)).congr fun x => by simp
theorem blk_ne {t : TideS} {x1 x2 y1 y2 s : Int} (hx : x1 ≤ x2) (hy : y1 ≤ y2) : blkL t x1 x2 y1 y2 s ≠ [] := by
  rw [blk_cons hy, row_cons hx]; simp
theorem blk_all {t : TideS} (ht : tideB t = true) {x1 x2 y1 y2 s : Int} : ∀ g ∈ blkL t x1 x2 y1 y2 s, bndB g = true ∧ g.x = 0 ∧ g.y = 0 ∧ g.s = 0 := fun g hg => by
  obtain ⟨x, y, s', _, _, _, _, _, _, rfl⟩ := blk_mem.1 hg
  exact ⟨of_bnd ht _ _ _, rfl, rfl, rfl⟩
def bndF (t : TideS) (x1 y1 x2 y2 c1 c2 : Int) : List FlowS := (rng c1 c2).map fun s => joinL (blkL t x1 x2 y1 y2 s)
theorem bndF_cons {t : TideS} {x1 y1 x2 y2 c1 c2 : Int} (h : c1 ≤ c2) : bndF t x1 y1 x2 y2 c1 c2 = joinL (blkL t x1 x2 y1 y2 c1) :: bndF t x1 y1 x2 y2 (c1 + 1) c2 := by unfold bndF; rw [rng_cons h]; rfl
theorem bndF_nil {t : TideS} {x1 y1 x2 y2 c1 c2 : Int} (h : c2 < c1) : bndF t x1 y1 x2 y2 c1 c2 = [] := by unfold bndF; rw [rng_nil h]; rfl
theorem clip_bd {t : TideS} (ht : tideB t = true) (q : Int) : -1 ≤ clipS t q ∧ clipS t q ≤ 1000 := by
  have := (tide_get ht).1
  unfold clipS; omega
theorem clip_mono {t : TideS} {p q : Int} (h : p ≤ q) : clipS t p ≤ clipS t q := by unfold clipS; omega
end Go.Proofs.YtlppfikkgcfaoaaGreat

/- Contracts of tide: Bound. -/
namespace Go.Proofs.YtlppfikkgcfaoaaGreat
open Go Go.V Go.RowKit
structure GoodT (t : TideS) (x1 y1 x2 y2 n1 n2 : Int) : Prop where
  ht : tideB t = true
  p1 : placeB (x1, y1) = true
  p2 : placeB (x2, y2) = true
  hx : x1 ≤ x2
  hy : y1 ≤ y2
  h1 : 0 ≤ n1
  h2 : n1 ≤ n2
  h3 : n2 ≤ 1000000000
theorem lo_nest {α β : Type} {l : β → Prop} {S : β → α → Prop} {c : α → Int} {g : β → Int} {a : Int} (h : (∀ x, l x → a ≤ g x) ∧ ∃ x, l x ∧ g x = a) (k : ∀ x, l x → (∀ y, S x y → g x ≤ c y) ∧ ∃ y, S x y ∧ c y = g x) : (∀ y, (∃ x, l x ∧ S x y) → a ≤ c y) ∧ ∃ y, (∃ x, l x ∧ S x y) ∧ c y = a := by
  refine ⟨fun y ⟨x, hx, hy⟩ => ?_, ?_⟩
  · have := h.1 x hx; have := (k x hx).1 y hy; omega
  · obtain ⟨x, hx, e⟩ := h.2
    obtain ⟨y, hy, e'⟩ := (k x hx).2
    exact ⟨y, ⟨x, hx, hy⟩, by omega⟩
theorem hi_nest {α β : Type} {l : β → Prop} {S : β → α → Prop} {c : α → Int} {g : β → Int} {a : Int} (h : (∀ x, l x → g x ≤ a) ∧ ∃ x, l x ∧ g x = a) (k : ∀ x, l x → (∀ y, S x y → c y ≤ g x) ∧ ∃ y, S x y ∧ c y = g x) : (∀ y, (∃ x, l x ∧ S x y) → c y ≤ a) ∧ ∃ y, (∃ x, l x ∧ S x y) ∧ c y = a := by
  refine ⟨fun y ⟨x, hx, hy⟩ => ?_, ?_⟩
  · have := h.1 x hx; have := (k x hx).1 y hy; omega
  · obtain ⟨x, hx, e⟩ := h.2
    obtain ⟨y, hy, e'⟩ := (k x hx).2
    exact ⟨y, ⟨x, hx, hy⟩, by omega⟩
theorem ex_map {β : Type} {l : β → Prop} {g : β → FlowS} {c : FlowS → Int} {a : Int} (h : ∃ f, (∃ x, l x ∧ g x = f) ∧ c f = a) : ∃ x, l x ∧ c (g x) = a := by
  obtain ⟨f, ⟨x, hx, rfl⟩, e⟩ := h
  exact ⟨x, hx, e⟩
theorem isJ_nest {β : Type} {l : β → Prop} {S : β → FlowS → Prop} {g : β → FlowS} {f : FlowS} (h : IsJ (fun y => ∃ x, l x ∧ g x = y) f) (k : ∀ x, l x → IsJ (S x) (g x)) : IsJ (fun y => ∃ x, l x ∧ S x y) f :=
  ⟨h.x, h.y, h.s, lo_nest (g := fun x => (g x).ul) ⟨fun x hx => h.ul.1 _ ⟨x, hx, rfl⟩, ex_map h.ul.2⟩ fun x hx => (k x hx).ul,
   hi_nest (g := fun x => (g x).uh) ⟨fun x hx => h.uh.1 _ ⟨x, hx, rfl⟩, ex_map h.uh.2⟩ fun x hx => (k x hx).uh,
   lo_nest (g := fun x => (g x).vl) ⟨fun x hx => h.vl.1 _ ⟨x, hx, rfl⟩, ex_map h.vl.2⟩ fun x hx => (k x hx).vl,
   hi_nest (g := fun x => (g x).vh) ⟨fun x hx => h.vh.1 _ ⟨x, hx, rfl⟩, ex_map h.vh.2⟩ fun x hx => (k x hx).vh,
   lo_nest (g := fun x => (g x).hl) ⟨fun x hx => h.hl.1 _ ⟨x, hx, rfl⟩, ex_map h.hl.2⟩ fun x hx => (k x hx).hl,
   hi_nest (g := fun x => (g x).hh) ⟨fun x hx => h.hh.1 _ ⟨x, hx, rfl⟩, ex_map h.hh.2⟩ fun x hx => (k x hx).hh⟩
theorem bnd_isJ {t : TideS} (ht : tideB t = true) {x1 x2 y1 y2 q1 q2 : Int} (hx : x1 ≤ x2) (hy : y1 ≤ y2) (hq : q1 ≤ q2) {f : FlowS} (h : IsJ (· ∈ bndF t x1 y1 x2 y2 (clipS t q1) (clipS t q2)) f) : IsJ (inB t x1 x2 y1 y2 q1 q2) f := by
  have h1 : IsJ (fun y => ∃ s, (s ∈ rng (clipS t q1) (clipS t q2)) ∧ joinL (blkL t x1 x2 y1 y2 s) = y) f := h.congr fun y => by unfold bndF; simp
  have h2 := isJ_nest (S := fun s y => y ∈ blkL t x1 x2 y1 y2 s) h1 fun s _ => joinL_isJ (blk_ne hx hy) fun g hg => (blk_all ht g hg).2
  refine h2.congr fun y => ?_
  rw [← inB_clip ht hq]
  constructor
  · rintro ⟨x, y', s, a1, a2, a3, a4, a5, a6, rfl⟩
    exact ⟨s, rng_mem.2 ⟨a5, a6⟩, blk_mem.2 ⟨x, y', s, a1, a2, a3, a4, Int.le_refl _, Int.le_refl _, rfl⟩⟩
  · rintro ⟨s, hs, hm⟩
    obtain ⟨x, y', s', a1, a2, a3, a4, a5, a6, rfl⟩ := blk_mem.1 hm
    have := rng_mem.1 hs
    exact ⟨x, y', s', a1, a2, a3, a4, by omega, by omega, rfl⟩
theorem bndF_all {t : TideS} (ht : tideB t = true) {x1 x2 y1 y2 c1 c2 : Int} (hx : x1 ≤ x2) (hy : y1 ≤ y2) : ∀ g ∈ bndF t x1 y1 x2 y2 c1 c2, bndB g = true ∧ g.x = 0 ∧ g.y = 0 ∧ g.s = 0 := fun g hg => by
  obtain ⟨s, _, rfl⟩ := List.mem_map.1 hg
  have h := joinL_isJ (blk_ne hx hy (t := t) (s := s)) fun g hg => (blk_all ht g hg).2
  exact ⟨h.bnd fun g hg => (blk_all ht g hg).1, h.x, h.y, h.s⟩
end Go.Proofs.YtlppfikkgcfaoaaGreat

/- Contracts of the tide's reference: what is usable. -/
namespace Go.Proofs.YtlppfikkgcfaoaaGreat
open Go Go.V Go.RowKit
def inFB (a b : FlowS) : Bool := decide (b.ul ≤ a.ul ∧ a.uh ≤ b.uh) && decide (b.vl ≤ a.vl ∧ a.vh ≤ b.vh) && decide (b.hl ≤ a.hl ∧ a.hh ≤ b.hh)
theorem inFB_of {a b : FlowS} (h : inF a b) : inFB a b = true := by
  unfold inF at h
  simp only [inFB, Bool.and_eq_true, decide_eq_true_eq]; omega
end Go.Proofs.YtlppfikkgcfaoaaGreat

/- Contracts of the tide's reference: bounds, rectangle, few, valid; what the laws look at. -/
namespace Go.Proofs.YtlppfikkgcfaoaaGreat
open Go Go.V Go.RowKit
def rectB (x1 y1 x2 y2 : Int) : Bool := placeB (x1, y1) && placeB (x2, y2) && decide (x1 ≤ x2) && decide (y1 ≤ y2)
end Go.Proofs.YtlppfikkgcfaoaaGreat

/- Contracts of the tide's reference: few, valid, usable. -/
namespace Go.Proofs.YtlppfikkgcfaoaaGreat
open Go Go.V Go.RowKit
theorem place13_bd {x y : Int} (h : placeB (x, y) = true) : -500000 ≤ x ∧ x ≤ 500000 ∧ -500000 ≤ y ∧ y ≤ 500000 := by
  simp only [placeB, Bool.and_eq_true] at h
  have h1 := isCb_bd h.1
  have h2 := isCb_bd h.2
  exact ⟨h1.1, h1.2, h2.1, h2.2⟩
theorem rect_get {x1 y1 x2 y2 : Int} (h : rectB x1 y1 x2 y2 = true) : placeB (x1, y1) = true ∧ placeB (x2, y2) = true ∧ x1 ≤ x2 ∧ y1 ≤ y2 := by
  simp only [rectB, Bool.and_eq_true, decide_eq_true_eq] at h
  exact ⟨h.1.1.1, h.1.1.2, h.1.2, h.2⟩
end Go.Proofs.YtlppfikkgcfaoaaGreat

/- Contracts of the tide's reference: valid editions. -/
namespace Go.Proofs.YtlppfikkgcfaoaaGreat
open Go Go.V Go.RowKit
end Go.Proofs.YtlppfikkgcfaoaaGreat

/- Contracts of the tide's laws: usable. -/
namespace Go.Proofs.YtlppfikkgcfaoaaGreat
open Go Go.V Go.RowKit
end Go.Proofs.YtlppfikkgcfaoaaGreat

/- Contracts of the tide's laws: a place inside. -/
namespace Go.Proofs.YtlppfikkgcfaoaaGreat
open Go Go.V Go.RowKit
end Go.Proofs.YtlppfikkgcfaoaaGreat

/- Contracts of the tide's reference: down, slots, blocks, joins. -/
namespace Go.Proofs.YtlppfikkgcfaoaaGreat
open Go Go.V Go.RowKit
theorem rdAt {M : Mem} {B : Nat} {cs : Array Value} {t : TypeId} (h : M B = some (.cells cs t (0, 0))) : ∀ (j : Nat) u, cs.toList[j]? = some u → M.cell ((⟨B, 0, none⟩ : Addr).add j) = some u := fun j _ hu => cellAt h j (by simpa using hu)
theorem place_in {x1 y1 x2 y2 x y : Int} (h1 : placeB (x1, y1) = true) (h2 : placeB (x2, y2) = true) (a1 : x1 ≤ x) (a2 : x ≤ x2) (a3 : y1 ≤ y) (a4 : y ≤ y2) : placeB (x, y) = true := by
  have b1 := place13_bd h1
  have b2 := place13_bd h2
  simp only [placeB, isCb, Bool.and_eq_true, decide_eq_true_eq]
  omega
end Go.Proofs.YtlppfikkgcfaoaaGreat
