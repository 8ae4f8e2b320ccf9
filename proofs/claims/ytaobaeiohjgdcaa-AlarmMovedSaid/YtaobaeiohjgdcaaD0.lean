/- The plain law of polygons, cases and alarms: no program in sight. -/
import Derived.WalkKit
namespace Go.Proofs.Ytaobaeiohjgdcaa
open Go
abbrev Pt := Int × Int
def cross (ax ay bx by' cx cy : Int) : Int := (bx - ax) * (cy - ay) - (by' - ay) * (cx - ax)
def isC (x : Int) : Prop := -500000 ≤ x ∧ x ≤ 500000
def isCb (x : Int) : Bool := decide (-500000 ≤ x ∧ x ≤ 500000)
def i64r (x : Int) : Prop := -9223372036854775808 ≤ x ∧ x ≤ 9223372036854775807
theorem isCb_iff {x : Int} : isCb x = true ↔ isC x := by simp [isCb, isC]
def cmpI (x y : Int) : Int := if x < y then -1 else if y < x then 1 else 0
def orL : List Int → Int
  | [] => 0
  | x :: r => if x ≠ 0 then x else orL r
theorem orL_drop : ∀ (xs : List Int) (i : Nat), (∀ j, j < i → xs.getD j 0 = 0) → orL (xs.drop i) = orL xs
  | xs, 0, _ => by simp
  | [], i + 1, _ => by simp
  | x :: xs, i + 1, h => by
    have h0 := h 0 (by omega)
    simp at h0
    subst h0
    rw [List.drop_succ_cons, orL_drop xs i (fun j hj => by have := h (j + 1) (by omega); simpa using this)]
    simp [orL]
def cmpP (ax ay bx by' : Int) : Int := if cmpI ax bx ≠ 0 then cmpI ax bx else cmpI ay by'
def gp (ps : List Pt) (i : Nat) : Pt := ps.getD i (0, 0)
def placeB (p : Pt) : Bool := isCb p.1 && isCb p.2
def crossP (a b c : Pt) : Int := cross a.1 a.2 b.1 b.2 c.1 c.2
def cmpPt (a b : Pt) : Int := cmpP a.1 a.2 b.1 b.2
def v1B (ps : List Pt) (i : Nat) : Bool := placeB (gp ps i) && (i == 0 || decide (cmpPt (gp ps 0) (gp ps i) < 0))
def v2B (a b x : Pt) : Bool := x == a || x == b || decide (0 < crossP a b x)
def v3B (ps : List Pt) (i : Nat) : Bool := (List.range ps.length).all fun k => v2B (gp ps i) (gp ps ((i + 1) % ps.length)) (gp ps k)
def validB (ps : List Pt) : Bool := decide (1 ≤ ps.length) && decide (ps.length ≤ 64) && (List.range ps.length).all (v1B ps) && (decide (ps.length < 3) || (List.range ps.length).all (v3B ps))
def i64P (ps : List Pt) : Prop := ∀ i, i < ps.length → i64r (gp ps i).1 ∧ i64r (gp ps i).2
theorem all_false {n : Nat} {f : Nat → Bool} {i : Nat} (hi : i < n) (h : f i = false) : (List.range n).all f = false := by
  cases hb : (List.range n).all f with
  | false => rfl
  | true => have := List.all_eq_true.1 hb i (List.mem_range.2 hi); rw [h] at this; cases this
theorem all_true {n : Nat} {f : Nat → Bool} (h : ∀ i, i < n → f i = true) : (List.range n).all f = true := List.all_eq_true.2 fun i hi => h i (List.mem_range.1 hi)
theorem all_iff {n : Nat} {f : Nat → Bool} : (List.range n).all f = true ↔ ∀ i, i < n → f i = true := ⟨fun h i hi => List.all_eq_true.1 h i (List.mem_range.2 hi), all_true⟩

/- The reference's law of polygons. -/
def lessB (a b : Pt) : Bool := decide (a.1 < b.1) || (a.1 == b.1 && decide (a.2 < b.2))
theorem lessB_iff (a b : Pt) : lessB a b = decide (cmpPt a b < 0) := by
  obtain ⟨a1, a2⟩ := a
  obtain ⟨b1, b2⟩ := b
  rw [Bool.eq_iff_iff]
  simp only [lessB, cmpPt, cmpP, cmpI, Bool.or_eq_true, Bool.and_eq_true, decide_eq_true_eq, beq_iff_eq]
  repeat' split
  all_goals omega
def r3B (ps : List Pt) (i k : Nat) : Bool := k == i || k == (i + 1) % ps.length || decide (0 < crossP (gp ps i) (gp ps ((i + 1) % ps.length)) (gp ps k))
def validR (ps : List Pt) : Bool := decide (1 ≤ ps.length) && decide (ps.length ≤ 64) && (List.range ps.length).all (fun i => placeB (gp ps i)) && (List.range ps.length).all (fun i => i == 0 || lessB (gp ps 0) (gp ps i)) && (decide (ps.length < 3) || (List.range ps.length).all fun i => (List.range ps.length).all (r3B ps i))

theorem crossP_self (a c : Pt) : crossP a a c = 0 := by simp [crossP, cross]
theorem crossP_swap (a b c : Pt) : crossP a c b = - crossP a b c := by
  simp only [crossP, cross]
  rw [Int.mul_comm (c.1 - a.1), Int.mul_comm (c.2 - a.2)]
  omega
theorem lt_ne {a b : Pt} (h : cmpPt a b < 0) : b ≠ a := by
  intro e; subst e
  simp [cmpPt, cmpP, cmpI] at h
/-- The corners of a polygon differ. -/
theorem corners_ne {n : Nat} {g : Nat → Pt} (h0 : ∀ i, 0 < i → i < n → g i ≠ g 0)
    (hB : ∀ i, i < n → ∀ k, k < n → g k = g i ∨ g k = g ((i + 1) % n) ∨ 0 < crossP (g i) (g ((i + 1) % n)) (g k)) :
    ∀ a b, a < b → b < n → g a ≠ g b := by
  have hz : ∀ i, 0 < i → i < n → g ((i + 1) % n) ≠ g i := by
    intro i hi hn e
    have := hB i hn 0 (by omega)
    rw [e, crossP_self] at this
    rcases this with h | h | h
    · exact h0 i hi hn h.symm
    · exact h0 i hi hn h.symm
    · omega
  have step : ∀ i j, 0 < i → i < j → j < n → g i = g j → g (i + 1) = g ((j + 1) % n) := by
    intro i j hi hij hj e
    have hsi : (i + 1) % n = i + 1 := Nat.mod_eq_of_lt (by omega)
    have b1 := hB i (by omega) ((j + 1) % n) (Nat.mod_lt _ (by omega))
    have b2 := hB j hj (i + 1) (by omega)
    have z1 := hz i hi (by omega)
    have z2 := hz j (by omega) hj
    rw [hsi] at b1 z1
    rw [← e] at b2 z2
    rcases b1 with b1 | b1 | b1
    · exact absurd b1 z2
    · exact b1.symm
    rcases b2 with b2 | b2 | b2
    · exact absurd b2 z1
    · exact b2
    · rw [crossP_swap] at b2; omega
  intro a b hab hb e
  by_cases ha : a = 0
  · subst ha; exact h0 b hab hb e.symm
  have run : ∀ d, b + d < n → g (a + d) = g (b + d) := by
    intro d
    induction d with
    | zero => intro _; exact e
    | succ d ih =>
      intro h
      have := step (a + d) (b + d) (by omega) (by omega) (by omega) (ih (by omega))
      rw [Nat.mod_eq_of_lt (by omega)] at this
      exact this
  have hlast := step (a + (n - 1 - b)) (b + (n - 1 - b)) (by omega) (by omega) (by omega) (run _ (by omega))
  rw [show (b + (n - 1 - b) + 1) % n = 0 by rw [show b + (n - 1 - b) + 1 = n by omega]; exact Nat.mod_self n] at hlast
  exact h0 _ (by omega) (by omega) hlast

theorem validR_eq (ps : List Pt) : validR ps = validB ps := by
  rw [Bool.eq_iff_iff]
  simp only [validR, validB, Bool.and_eq_true, Bool.or_eq_true, decide_eq_true_eq, all_iff, v1B, v3B, v2B, r3B, lessB_iff, beq_iff_eq]
  constructor
  · rintro ⟨⟨⟨h1, h2⟩, h3⟩, h4⟩
    refine ⟨⟨h1, fun i hi => ⟨h2 i hi, h3 i hi⟩⟩, ?_⟩
    rcases h4 with h4 | h4
    · exact .inl h4
    · refine .inr fun i hi k hk => ?_
      rcases h4 i hi k hk with (h | h) | h
      · exact .inl (.inl (by rw [h]))
      · exact .inl (.inr (by rw [h]))
      · exact .inr h
  · rintro ⟨⟨h1, h2⟩, h4⟩
    refine ⟨⟨⟨h1, fun i hi => (h2 i hi).1⟩, fun i hi => (h2 i hi).2⟩, ?_⟩
    rcases h4 with h4 | h4
    · exact .inl h4
    · refine .inr fun i hi k hk => ?_
      have hne := corners_ne (n := ps.length) (g := gp ps) (fun i hi0 hi => lt_ne (by rcases (h2 i hi).2 with h | h; omega; exact h))
        (fun i hi k hk => by rcases h4 i hi k hk with (h | h) | h; exact .inl h; exact .inr (.inl h); exact .inr (.inr h))
      have inj : ∀ a b, a < ps.length → b < ps.length → gp ps a = gp ps b → a = b := by
        intro a b ha hb e
        rcases Nat.lt_trichotomy a b with h | h | h
        · exact absurd e (hne a b h hb)
        · exact h
        · exact absurd e.symm (hne b a h ha)
      rcases h4 i hi k hk with (h | h) | h
      · exact .inl (.inl (inj _ _ hk hi h))
      · exact .inl (.inr (inj _ _ hk (Nat.mod_lt _ (by omega)) h))
      · exact .inr h

/- Has, within. -/
def betwB (a b x : Pt) : Bool := decide (min a.1 b.1 ≤ x.1 ∧ x.1 ≤ max a.1 b.1 ∧ min a.2 b.2 ≤ x.2 ∧ x.2 ≤ max a.2 b.2)
def sideB (ps : List Pt) (x : Pt) (i : Nat) : Bool := decide (0 ≤ crossP (gp ps i) (gp ps ((i + 1) % ps.length)) x)
def hasB (ps : List Pt) (x : Pt) : Bool :=
  if ps.length = 1 then gp ps 0 == x
  else if ps.length = 2 then decide (crossP (gp ps 0) (gp ps 1) x = 0) && betwB (gp ps 0) (gp ps 1) x
  else (List.range ps.length).all (sideB ps x)
def withinB (p q : List Pt) : Bool := p.all (hasB q)
theorem filter_len {α : Type} (f : α → Bool) : ∀ l : List α, decide ((l.filter f).length = l.length) = l.all f
  | [] => rfl
  | x :: l => by
    have ih := filter_len f l
    have := List.length_filter_le f l
    by_cases h : f x = true
    · rw [List.filter_cons_of_pos h, List.all_cons, h, ← ih]; simp
    · rw [List.filter_cons_of_neg h, List.all_cons]
      simp only [Bool.not_eq_true] at h
      rw [h]
      simp only [Bool.false_and, decide_eq_false_iff_not, List.length_cons]
      omega

/- Cases. -/
structure CaseS where
  sn : List Int
  cl : List Int
  st : List (List Pt)
structure BelS where
  t : Int
  cs : List CaseS
def gi (l : List Int) (i : Nat) : Int := l.getD i 0
def rise1 (lo hi : Int) (l : List Int) (i : Nat) : Bool := decide (lo ≤ gi l i ∧ gi l i ≤ hi) && (i == 0 || decide (gi l (i - 1) < gi l i))
def risingB (lo hi : Int) (l : List Int) : Bool := (List.range l.length).all (rise1 lo hi l)
def regionB (r : List (List Pt)) : Bool := decide (r.length ≤ 32) && r.all validB
/-- Where two lists differ first: the comparison of the elements. -/
def lexB : List Int → List Int → Int
  | x :: a, y :: b => if cmpI x y ≠ 0 then cmpI x y else lexB a b
  | [], [] => 0
  | [], _ :: _ => -1
  | _ :: _, [] => 1
def listsC (a b : List Int) : Int := if cmpI a.length b.length ≠ 0 then cmpI a.length b.length else lexB a b
def caseC (a b : CaseS) : Int := if listsC a.sn b.sn ≠ 0 then listsC a.sn b.sn else listsC a.cl b.cl
/-- The reference's comparison. -/
def diffB : List Int → List Int → Int
  | x :: a, y :: b => if x ≠ y then x - y else diffB a b
  | _, _ => 0
def listsR (a b : List Int) : Int := if a.length ≠ b.length then (a.length : Int) - b.length else diffB a b
def caseR (a b : CaseS) : Int := if listsR a.sn b.sn ≠ 0 then listsR a.sn b.sn else listsR a.cl b.cl
theorem cmpI_sgn (x y : Int) : (cmpI x y < 0 ↔ x < y) ∧ (cmpI x y = 0 ↔ x = y) := by
  unfold cmpI
  repeat' split
  all_goals omega
theorem diff_sgn : ∀ a b : List Int, a.length = b.length → (diffB a b < 0 ↔ lexB a b < 0) ∧ (diffB a b = 0 ↔ lexB a b = 0)
  | [], [], _ => by simp [diffB, lexB]
  | [], _ :: _, h => by simp at h
  | _ :: _, [], h => by simp at h
  | x :: a, y :: b, h => by
    have ih := diff_sgn a b (by simpa using h)
    have hs := cmpI_sgn x y
    simp only [diffB, lexB]
    by_cases e : x = y
    · simp [e, (cmpI_sgn y y).2]; exact ih
    · have h0 : cmpI x y ≠ 0 := fun h => e (hs.2.1 h)
      rw [if_pos e, if_pos h0]
      exact ⟨by omega, ⟨fun h => absurd (by omega) e, fun h => absurd h h0⟩⟩
theorem listsR_sgn (a b : List Int) : (listsR a b < 0 ↔ listsC a b < 0) ∧ (listsR a b = 0 ↔ listsC a b = 0) := by
  have hs := cmpI_sgn a.length b.length
  unfold listsR listsC
  by_cases e : a.length = b.length
  · have : cmpI (a.length : Int) b.length = 0 := hs.2.2 (by omega)
    simp [e, (cmpI_sgn (b.length : Int) b.length).2]
    exact diff_sgn a b e
  · have h0 : cmpI (a.length : Int) b.length ≠ 0 := fun h => e (by have := hs.2.1 h; omega)
    rw [if_pos e, if_pos h0]
    exact ⟨by omega, ⟨fun h => absurd (by omega) e, fun h => absurd h h0⟩⟩
theorem caseR_sgn (a b : CaseS) : (caseR a b < 0 ↔ caseC a b < 0) ∧ (caseR a b = 0 ↔ caseC a b = 0) := by
  have h1 := listsR_sgn a.sn b.sn
  have h2 := listsR_sgn a.cl b.cl
  unfold caseR caseC
  by_cases e : listsC a.sn b.sn = 0
  · simp [e, h1.2.2 e, h2]
  · have : listsR a.sn b.sn ≠ 0 := fun h => e (h1.2.1 h)
    simp [e, this, h1]
def case1 (c : CaseS) : Bool := decide (c.st ≠ []) && regionB c.st && risingB 1 8 c.sn && risingB 0 3999 c.cl
def gc (cs : List CaseS) (i : Nat) : CaseS := cs.getD i ⟨[], [], []⟩
def caseV (cs : List CaseS) (i : Nat) : Bool := case1 (gc cs i) && (i == 0 || decide (caseC (gc cs (i - 1)) (gc cs i) < 0))
def casesB (cs : List CaseS) : Bool := decide (cs.length ≤ 200) && (List.range cs.length).all (caseV cs)
def leftB (cs : List CaseS) (q : List Pt) : Bool := cs.any fun c => c.st.any fun p => !withinB p q
def kindB (cs : List CaseS) (q : List Pt) : Int := if cs = [] then 1 else if leftB cs q = true then 2 else 0
def raiseB (cs : List CaseS) (q : List Pt) : Int × Int := if casesB cs && validB q then (kindB cs q, 0) else (0, 1)
def gb (bs : List BelS) (i : Nat) : BelS := bs.getD i ⟨0, []⟩
def lastT (bs : List BelS) : Nat → Int
  | 0 => 0
  | i + 1 => (gb bs i).t
def belV (bs : List BelS) (i : Nat) : Bool := decide (lastT bs i ≤ (gb bs i).t ∧ (gb bs i).t ≤ 1000000000) && casesB (gb bs i).cs
def belB (bs : List BelS) : Bool := (List.range bs.length).all (belV bs)
/-- The first alarm. -/
def fstB (q : List Pt) : List BelS → Int × Int
  | [] => (0, 0)
  | b :: bs => if kindB b.cs q ≠ 0 then (0, kindB b.cs q) else ((fstB q bs).1 + 1, (fstB q bs).2)
theorem fst_drop (q : List Pt) : ∀ (bs : List BelS) (i : Nat), i ≤ bs.length → (∀ j, j < i → kindB (gb bs j).cs q = 0) → fstB q bs = ((fstB q (bs.drop i)).1 + i, (fstB q (bs.drop i)).2)
  | _, 0, _, _ => by simp
  | [], i + 1, h, _ => by simp at h
  | b :: bs, i + 1, h, hk => by
    have h0 : kindB b.cs q = 0 := by have := hk 0 (by omega); simpa [gb] using this
    rw [List.drop_succ_cons, fstB, if_neg (fun h => h h0), fst_drop q bs i (by simpa using h) (fun j hj => by have := hk (j + 1) (by omega); simpa [gb] using this)]
    refine Prod.ext ?_ rfl
    show _ + _ + 1 = _ + ((i + 1 : Nat) : Int)
    omega
theorem fst_here {q : List Pt} {bs : List BelS} {i : Nat} (hi : i < bs.length) (hk : ∀ j, j < i → kindB (gb bs j).cs q = 0) (h : kindB (gb bs i).cs q ≠ 0) : fstB q bs = ((i : Int), kindB (gb bs i).cs q) := by
  rw [fst_drop q bs i (by omega) hk, List.drop_eq_getElem_cons hi]
  have e : bs[i] = gb bs i := by simp [gb, hi]
  rw [e, fstB, if_pos h]; simp
theorem fst_none {q : List Pt} {bs : List BelS} (hk : ∀ j, j < bs.length → kindB (gb bs j).cs q = 0) : fstB q bs = ((bs.length : Int), 0) := by
  rw [fst_drop q bs bs.length (Nat.le_refl _) hk, List.drop_length]; simp [fstB]
def firstB (bs : List BelS) (q : List Pt) : Int × Int × Int :=
  if 2001 < bs.length then (0, 0, 2) else if belB bs && validB q then ((fstB q bs).1, (fstB q bs).2, 0) else (0, 0, 1)
end Go.Proofs.Ytaobaeiohjgdcaa
