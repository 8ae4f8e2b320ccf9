/- Contracts of package cut: half-planes, sides, frames. -/
import Derived.Test.YtdfhnemhkpplbaaGreatDoorHa7
import Derived.Shelf.Spec.SlicesGrow
set_option linter.unusedVariables false
set_option linter.unusedSimpArgs false
namespace Go.Proofs.YtdfhnemhkpplbaaGreatDoor
open Go Go.V Go.RowKit
theorem turnC_fn (ax ay bx by' cx' cy : Int) (M : Mem) (h1 : isC ax) (h2 : isC ay) (h3 : isC bx) (h4 : isC by') (h5 : isC cx') (h6 : isC cy) :
  FnP Tryz.prog 144 [pt ax ay, pt bx by', pt cx' cy] M [.int .i64 (cross ax ay bx by' cx' cy)] := by
 unfold isC at *
 have p1 := bd12 (a := bx - ax) (b := cy - ay) (by omega) (by omega) (by omega) (by omega)
 have p2 := bd12 (a := by' - ay) (b := cx' - ax) (by omega) (by omega) (by omega) (by omega)
 refine Fn.of_vc cxOK Tryz.func144 rfl rfl rfl ?_
 repeat (first | refine VIf.tt ?_ | refine VIf.ff ?_)
 refine VArith.ok (by omega) (by omega) ?_
 repeat (first | refine VIf.tt ?_ | refine VIf.ff ?_)
 refine VArith.ok (by omega) (by omega) ?_
 repeat (first | refine VIf.tt ?_ | refine VIf.ff ?_)
 refine VArith.ok (by omega) (by omega) ?_
 repeat (first | refine VIf.tt ?_ | refine VIf.ff ?_)
 refine VArith.ok (by omega) (by omega) ?_
 repeat (first | refine VIf.tt ?_ | refine VIf.ff ?_)
 refine VArith.ok (by omega) (by omega) ?_
 repeat (first | refine VIf.tt ?_ | refine VIf.ff ?_)
 refine VArith.ok (by omega) (by omega) ?_
 repeat (first | refine VIf.tt ?_ | refine VIf.ff ?_)
 refine VArith.ok (by omega) (by omega) ?_
 repeat (first | refine VIf.tt ?_ | refine VIf.ff ?_)
 exact VFact.mk ⟨rfl, rfl⟩ trivial
theorem sidesC_fn (ad : Option Addr) (n c : Nat) (M : Mem) : V.Fn Tryz.prog 97 [.slice ad n c] M fun rs M' => ∃ B, rs = [.func (.func 119) #[] #[.pointer (some ⟨B, 0, none⟩)]] ∧ M' B = some (.cells #[.slice ad n c] 27 (0, 0)) := by
 refine Fn.of_vc cxOK Tryz.func97 rfl rfl rfl ?_
 repeat (first | refine VIf.tt ?_ | refine VIf.ff ?_)
 refine VFzB.mk fun x B M' hle hB => ?_
 repeat (first | refine VIf.tt ?_ | refine VIf.ff ?_)
 exact VFact.mk ⟨B, rfl, hB⟩ trivial
theorem sidesC_iter (M : Mem) (B : Nat) (v : Value) (ps : List Pt) (hB : M B = some (.cells #[v] 27 (0, 0))) (hv : Pts M v ps) :
  Iter Tryz.prog 119 #[.pointer (some ⟨B, 0, none⟩)] M (sidesL ps) := by
 obtain ⟨ad, c, rfl, hc, hm, hl, h1, hcell⟩ := hv
 refine Iter.of_vc cxOK Tryz.func119 rfl rfl rfl rfl fun l => ?_
 repeat (first | refine VIf.tt ?_ | refine VIf.ff ?_)
 refine VRead.mk _ (box1 hB) ?_
 repeat (first | refine VIf.tt ?_ | refine VIf.ff ?_)
 refine VCode.loopG cxOK (fun m => m = fun _ => none) rfl Nat
  (fun i => ⟨[(0, .v (.func (.yield l) #[] #[])), (1, .v (.pointer (some ⟨B, 0, none⟩))), (5, .v (.slice ad ps.length c)), (6, .v (.int .i64 ps.length)), (7, .v (.int .i64 i))], [], 0, M, 25, ⟨fun _ => none, some (l, (sidesL ps).drop i), fun _ => none⟩⟩)
  (fun i => i ≤ ps.length) (fun i => ps.length - i) 0 (Nat.zero_le _) ?_ ?_
 ·exact Wk.mk' id ⟨⟨rfl, rfl⟩, ⟨rfl, rfl⟩, ⟨rfl, rfl⟩, ⟨rfl, rfl⟩, ⟨rfl, rfl⟩, trivial⟩ trivial trivial rfl rfl rfl
 rintro i hi m rfl
 repeat (first | refine VIf.tt ?_ | refine VIf.ff ?_)
 refine VIf.mk (fun hlt => ?_) (fun hge => ?_)
 ·have hlt : i < ps.length := by simpa using hlt
  obtain ⟨ad', rfl, hrd⟩ := hcell (by omega)
  have hpt : ∀ k, k < ps.length → ∀ j v, [Value.int .i64 (ps.getD k (0,0)).1, .int .i64 (ps.getD k (0,0)).2][j]? = some v → M.cell ((ad'.add (k * 2)).add j) = some v := by
   intro k hk j v hj
   obtain ⟨g1, g2⟩ := cellsP_get ps k hk
   rw [show (ad'.add (k * 2)).add j = ad'.add (2 * k + j) by rw [Addr.add_add]; congr 1; omega]
   refine hrd _ _ ?_
   match j, hj with
   | 0, hj => rw [← hj]; exact g1
   | 1, hj => rw [← hj]; exact g2
   | j + 2, hj => simp at hj
  repeat (first | refine VIf.tt ?_ | refine VIf.ff ?_)
  refine VIdx.mk ad' i rfl rfl hlt ?_
  repeat (first | refine VIf.tt ?_ | refine VIf.ff ?_)
  refine VReads.mk [.int .i64 (ps.getD i (0,0)).1, .int .i64 (ps.getD i (0,0)).2] rfl (hpt i hlt) ?_
  repeat (first | refine VIf.tt ?_ | refine VIf.ff ?_)
  refine VDraw.go (by kernel_rfl) ?_
  have hmod : (i + 1) % ps.length < ps.length := Nat.mod_lt _ (by omega)
  repeat (first | refine VIf.tt ?_ | refine VIf.ff ?_)
  refine VRead.mk _ (box1 hB) ?_
  conv => whnf
  repeat (first | refine VIf.tt ?_ | refine VIf.ff ?_)
  refine VArith.ok (by omega) (by unfold maxLen at hm; omega) ?_
  repeat (first | refine VIf.tt ?_ | refine VIf.ff ?_)
  refine VRead.mk _ (box1 hB) ?_
  conv => whnf
  repeat (first | refine VIf.tt ?_ | refine VIf.ff ?_)
  refine VDiv.mk (by omega) ?_
  repeat (first | refine VIf.tt ?_ | refine VIf.ff ?_)
  refine VIdx.mk ad' ((i + 1) % ps.length) rfl ?_ hmod ?_
  ·rw [Int.tmod_eq_emod_of_nonneg (by omega)]; simp
  repeat (first | refine VIf.tt ?_ | refine VIf.ff ?_)
  refine VReads.mk [.int .i64 (ps.getD ((i + 1) % ps.length) (0,0)).1, .int .i64 (ps.getD ((i + 1) % ps.length) (0,0)).2] rfl (hpt _ hmod) ?_
  repeat (first | refine VIf.tt ?_ | refine VIf.ff ?_)
  refine VYield.mk ((sidesL ps).drop (i + 1)) ?_ ?_ ?_
  ·simp only [Gh.mk.injEq, and_true, true_and, Option.some.injEq, Prod.mk.injEq]
   rw [List.drop_eq_getElem_cons (by simpa [sidesL] using hlt)]
   simp [sidesL, ptv, pt]
  ·refine VIf.ff ?_
   repeat (first | refine VIf.tt ?_ | refine VIf.ff ?_)
   refine VArith.ok (by omega) (by unfold maxLen at hm; omega) ?_
   exact ⟨rfl, i + 1, hlt, by omega, Wk.mk' id ⟨⟨rfl, rfl⟩, ⟨rfl, rfl⟩, ⟨rfl, rfl⟩, ⟨rfl, rfl⟩, ⟨rfl, rfl⟩, trivial⟩ trivial trivial rfl rfl rfl⟩
  ·refine VIf.tt ?_
   exact VEnd.stop rfl
 ·have hge : i = ps.length := by
   have : ¬ ((i : Int) < (ps.length : Int)) := by simpa using hge
   omega
  subst hge
  exact VEnd.all (by simp [sidesL])
def halfB (A B C : Int) : Bool := decide (-1000000 ≤ A ∧ A ≤ 1000000) && decide (-1000000 ≤ B ∧ B ≤ 1000000) && decide (-1000000000000 ≤ C ∧ C ≤ 1000000000000) && !(decide (A = 0) && decide (B = 0))
def hv (A B C : Int) : Value := .agg #[.int .i64 A, .int .i64 B, .int .i64 C]
theorem small_fn (n m : Int) (M : Mem) (hm : 0 ≤ m ∧ m ≤ 1000000000000) : FnP Tryz.prog 116 [.int .i64 n, .int .i64 m] M [.bool (decide (-m ≤ n ∧ n ≤ m))] := by
 refine Fn.of_vc cxOK Tryz.func116 rfl rfl rfl ?_
 repeat (first | refine VIf.tt ?_ | refine VIf.ff ?_)
 refine VArith.ok (by first | omega | (simp only; omega)) (by first | omega | (simp only; omega)) ?_
 repeat (first | refine VIf.tt ?_ | refine VIf.ff ?_)
 refine VIf.mk (fun h => ?_) (fun h => ?_)
 ·have h := of_decide_eq_true h
  repeat (first | refine VIf.tt ?_ | refine VIf.ff ?_)
  refine VFact.mk ⟨?_, rfl⟩ trivial
  exact congrArg (fun b => [Value.bool b]) (decide_eq_decide.2 ⟨fun h' => ⟨h, h'⟩, fun h' => h'.2⟩)
 ·have h := of_decide_eq_false h
  repeat (first | refine VIf.tt ?_ | refine VIf.ff ?_)
  refine VFact.mk ⟨?_, rfl⟩ trivial
  rw [decide_eq_false (by omega)]
set_option maxRecDepth 20000 in
theorem halfValid_fn (A B C : Int) (M : Mem) : FnP Tryz.prog 92 [hv A B C] M [.bool (halfB A B C)] := by
 refine Fn.of_vc cxOK Tryz.func92 rfl rfl rfl ?_
 repeat (first | refine VIf.tt ?_ | refine VIf.ff ?_)
 refine VFn.p (small_fn A 1000000 M (by decide)) ?_
 have e : ∀ {b1 b2 b3 : Bool}, decide (-1000000 ≤ A ∧ A ≤ 1000000) = b1 → decide (-1000000 ≤ B ∧ B ≤ 1000000) = b2 → decide (-1000000000000 ≤ C ∧ C ≤ 1000000000000) = b3 → halfB A B C = (b1 && b2 && b3 && !(decide (A = 0) && decide (B = 0))) := fun h1 h2 h3 => by unfold halfB; rw [h1, h2, h3]
 repeat (first | refine VIf.tt ?_ | refine VIf.ff ?_)
 refine VIf.mk (fun h1 => ?_) (fun h1 => ?_)
 rotate_left
 ·repeat (first | refine VIf.tt ?_ | refine VIf.ff ?_)
  refine VFact.mk ⟨?_, rfl⟩ trivial
  rw [e h1 rfl rfl]; simp
 repeat (first | refine VIf.tt ?_ | refine VIf.ff ?_)
 refine VFn.p (small_fn B 1000000 M (by decide)) ?_
 repeat (first | refine VIf.tt ?_ | refine VIf.ff ?_)
 refine VIf.mk (fun h2 => ?_) (fun h2 => ?_)
 rotate_left
 ·repeat (first | refine VIf.tt ?_ | refine VIf.ff ?_)
  refine VFact.mk ⟨?_, rfl⟩ trivial
  rw [e h1 h2 rfl]; simp
 repeat (first | refine VIf.tt ?_ | refine VIf.ff ?_)
 refine VFn.p (small_fn C 1000000000000 M (by decide)) ?_
 repeat (first | refine VIf.tt ?_ | refine VIf.ff ?_)
 refine VIf.mk (fun h3 => ?_) (fun h3 => ?_)
 rotate_left
 ·repeat (first | refine VIf.tt ?_ | refine VIf.ff ?_)
  refine VFact.mk ⟨?_, rfl⟩ trivial
  rw [e h1 h2 h3]; simp
 repeat (first | refine VIf.tt ?_ | refine VIf.ff ?_)
 refine VIf.mk (fun h4 => ?_) (fun h4 => ?_)
 ·repeat (first | refine VIf.tt ?_ | refine VIf.ff ?_)
  refine VFact.mk ⟨?_, rfl⟩ trivial
  rw [e h1 h2 h3, decide_eq_false (by simpa using h4)]; simp
 ·repeat (first | refine VIf.tt ?_ | refine VIf.ff ?_)
  refine VFact.mk ⟨?_, rfl⟩ trivial
  have h4 : A = 0 := by simpa using h4
  rw [e h1 h2 h3, decide_eq_true h4]
  have : (B != 0) = !decide (B = 0) := by by_cases g : B = 0 <;> simp [g]
  simp only [this, Bool.true_and, List.cons.injEq, Value.bool.injEq, and_true]
theorem over_fn (A B C : Int) (x : Pt) (M : Mem) (h : halfB A B C = true) (hx : placeB x = true) : FnP Tryz.prog 94 [hv A B C, ptv x] M [.int .i64 (ovr A B C x)] := by
 have hp := place_C hx
 unfold isC at hp
 simp only [halfB, Bool.and_eq_true, decide_eq_true_eq] at h
 have e1 := mul_bd (a := A) (b := x.1) 1000000 500000 (by omega) (by omega) (by omega) (by omega) (by omega) (by omega)
 have e2 := mul_bd (a := B) (b := x.2) 1000000 500000 (by omega) (by omega) (by omega) (by omega) (by omega) (by omega)
 refine Fn.of_vc cxOK Tryz.func94 rfl rfl rfl ?_
 repeat (first | refine VIf.tt ?_ | refine VIf.ff ?_)
 refine VArith.ok (by first | omega | (simp only; omega)) (by first | omega | (simp only; omega)) ?_
 repeat (first | refine VIf.tt ?_ | refine VIf.ff ?_)
 refine VArith.ok (by first | omega | (simp only; omega)) (by first | omega | (simp only; omega)) ?_
 repeat (first | refine VIf.tt ?_ | refine VIf.ff ?_)
 refine VArith.ok (by first | omega | (simp only; omega)) (by first | omega | (simp only; omega)) ?_
 repeat (first | refine VIf.tt ?_ | refine VIf.ff ?_)
 refine VArith.ok (by first | omega | (simp only; omega)) (by first | omega | (simp only; omega)) ?_
 repeat (first | refine VIf.tt ?_ | refine VIf.ff ?_)
 exact VFact.mk ⟨rfl, rfl⟩ trivial
theorem ovr_bd {A B C : Int} {x : Pt} (h : halfB A B C = true) (hx : placeB x = true) : -2000000000000 ≤ ovr A B C x ∧ ovr A B C x ≤ 2000000000000 := by
 have hp := place_C hx
 unfold isC at hp
 simp only [halfB, Bool.and_eq_true, decide_eq_true_eq] at h
 have e1 := mul_bd (a := A) (b := x.1) 1000000 500000 (by omega) (by omega) (by omega) (by omega) (by omega) (by omega)
 have e2 := mul_bd (a := B) (b := x.2) 1000000 500000 (by omega) (by omega) (by omega) (by omega) (by omega) (by omega)
 unfold ovr; omega
theorem crossesC_fn (s t : Int) (M : Mem) : FnP Tryz.prog 95 [.int .i64 s, .int .i64 t] M [.bool (crossesB s t)] := by
 refine Fn.of_vc cxOK Tryz.func95 rfl rfl rfl ?_
 repeat' (first | refine VIf.tt ?_ | refine VIf.ff ?_ | refine VIf.mk (fun _ => ?_) (fun _ => ?_) | refine VFact.mk ?_ trivial)
 all_goals (refine ⟨bool1 ?_, rfl⟩; simp only [crosses_iff, Bool.and_eq_true, decide_eq_true_eq, decide_eq_false_iff_not, Bool.false_eq_true, false_iff, true_iff] at *; omega)
theorem flr_pos {a b : Int} (hb : 0 < b) : ((a.tmod b ≠ 0 ∧ a < 0) → a.tdiv b - 1 = flr a b) ∧ (¬ (a.tmod b ≠ 0 ∧ a < 0) → a.tdiv b = flr a b) := by
 obtain ⟨s1, s2⟩ := div_spec (a := a) hb
 have e : flr a b = a / b := by unfold flr; rw [if_pos hb]
 have hs : a < 0 → a.tmod b ≤ 0 := fun h => by
  have := Int.tmod_nonneg (a := -a) b (by omega)
  rw [Int.neg_tmod] at this; omega
 have hn : 0 ≤ a → 0 ≤ a.tmod b := fun h => Int.tmod_nonneg b h
 rw [e]
 refine ⟨fun ⟨h1, h2⟩ => (s1 (by have := hs h2; omega)).1, fun h => (s2 ?_).1⟩
 by_cases h2 : a < 0
 ·have : a.tmod b = 0 := Classical.byContradiction fun h1 => h ⟨h1, h2⟩
  omega
 ·exact hn (by omega)
theorem flr_tdiv {a b : Int} (hb : b ≠ 0) : ((a.tmod b ≠ 0 ∧ (decide (a < 0) != decide (b < 0)) = true) → a.tdiv b - 1 = flr a b) ∧ (¬ (a.tmod b ≠ 0 ∧ (decide (a < 0) != decide (b < 0)) = true) → a.tdiv b = flr a b) := by
 rcases Int.lt_or_lt_of_ne hb with h | h
 ·have hp := flr_pos (a := -a) (b := -b) (by omega)
  rw [Int.tdiv_neg, Int.neg_tdiv, Int.neg_neg, Int.tmod_neg, Int.neg_tmod] at hp
  have e : flr (-a) (-b) = flr a b := by unfold flr; rw [if_pos (by omega), if_neg (by omega)]
  rw [e] at hp
  have hc : (decide (a < 0) != decide (b < 0)) = true ↔ ¬ a < 0 := by
   rw [decide_eq_true h]
   by_cases g : a < 0 <;> simp [g]
  rw [hc]
  have z : a.tmod b ≠ 0 → a ≠ 0 := fun h0 e => h0 (by rw [e]; simp)
  refine ⟨fun ⟨h1, h2⟩ => hp.1 ⟨by omega, by have := z h1; omega⟩, fun h3 => hp.2 fun ⟨h1, h2⟩ => h3 ⟨by omega, by omega⟩⟩
 ·have hp := flr_pos (a := a) h
  have hc : (decide (a < 0) != decide (b < 0)) = true ↔ a < 0 := by
   rw [decide_eq_false (show ¬ b < 0 by omega)]
   by_cases g : a < 0 <;> simp [g]
  rw [hc]; exact hp
theorem tdiv_bd2 {a b : Int} (hb : b ≠ 0) (h1 : -4000000000000000000 ≤ a) (h2 : a ≤ 4000000000000000000) : -4000000000000000000 ≤ a.tdiv b ∧ a.tdiv b ≤ 4000000000000000000 := by
 have h := Int.natAbs_tdiv_le_natAbs a b
 omega
theorem floorC_fn (a b : Int) (M : Mem) (hb : b ≠ 0) (h1 : -4000000000000000000 ≤ a) (h2 : a ≤ 4000000000000000000) (hb' : -1000000000000000 ≤ b ∧ b ≤ 1000000000000000) : FnP Tryz.prog 118 [.int .i64 a, .int .i64 b] M [.int .i64 (flr a b)] := by
 have hq := tdiv_bd2 hb h1 h2
 obtain ⟨f1, f2⟩ := flr_tdiv (a := a) hb
 refine Fn.of_vc cxOK Tryz.func118 rfl rfl rfl ?_
 repeat (first | refine VIf.tt ?_ | refine VIf.ff ?_)
 refine VDiv.mk hb ?_
 repeat (first | refine VIf.tt ?_ | refine VIf.ff ?_)
 refine VArith.ok (by omega) (by omega) ?_
 repeat (first | refine VIf.tt ?_ | refine VIf.ff ?_)
 refine VDiv.mk hb ?_
 repeat (first | refine VIf.tt ?_ | refine VIf.ff ?_)
 refine VIf.mk (fun c1 => ?_) (fun c1 => ?_)
 ·have c1 : a.tmod b ≠ 0 := by simpa using c1
  repeat (first | refine VIf.tt ?_ | refine VIf.ff ?_)
  refine VIf.mk (fun c2 => ?_) (fun c2 => ?_)
  ·repeat (first | refine VIf.tt ?_ | refine VIf.ff ?_)
   refine VArith.ok (by omega) (by omega) ?_
   repeat (first | refine VIf.tt ?_ | refine VIf.ff ?_)
   refine VFact.mk ⟨?_, rfl⟩ trivial
   exact congrArg (fun n => [Value.int .i64 n]) (f1 ⟨c1, c2⟩)
  ·repeat (first | refine VIf.tt ?_ | refine VIf.ff ?_)
   refine VFact.mk ⟨?_, rfl⟩ trivial
   exact congrArg (fun n => [Value.int .i64 n]) (f2 fun h => absurd (c2.symm.trans h.2) (by decide))
 ·have c1 : a.tmod b = 0 := by simpa using c1
  repeat (first | refine VIf.tt ?_ | refine VIf.ff ?_)
  refine VFact.mk ⟨?_, rfl⟩ trivial
  exact congrArg (fun n => [Value.int .i64 n]) (f2 fun h => h.1 c1)
theorem endsC_fn (x y s t : Int) (B1 B2 : Nat) (M : Mem) (hB1 : M B1 = some (.cells #[.int .i64 s] 3 (0, 0))) (hB2 : M B2 = some (.cells #[.int .i64 t] 3 (0, 0))) (hx : isC x) (hy : isC y)
  (hs : -2000000000000 ≤ s ∧ s ≤ 2000000000000) (ht : -2000000000000 ≤ t ∧ t ≤ 2000000000000) (hst : s - t ≠ 0) (hb : (-500000 ≤ lo1 x y s t ∧ lo1 x y s t ≤ 500000) ∧ -500000 ≤ hi1 x y s t ∧ hi1 x y s t ≤ 500000) :
  FnP Tryz.prog 117 [.int .i64 x, .int .i64 y, .pointer (some ⟨B1, 0, none⟩), .pointer (some ⟨B2, 0, none⟩)] M [.agg #[.int .i64 (lo1 x y s t), .int .i64 (hi1 x y s t)]] := by
 unfold isC at hx hy
 have e1 := mul_bd (a := y - x) (b := s) 1000000 2000000000000 (by omega) (by omega) (by omega) (by omega) (by omega) (by omega)
 unfold lo1 hi1 at *
 refine Fn.of_vc cxOK Tryz.func117 rfl rfl rfl ?_
 repeat (first | refine VIf.tt ?_ | refine VIf.ff ?_)
 refine VArith.ok (by first | omega | (simp only; omega)) (by first | omega | (simp only; omega)) ?_
 repeat (first | refine VIf.tt ?_ | refine VIf.ff ?_)
 refine VRead.mk _ (cellAt hB1 0 rfl) ?_
 repeat (first | refine VIf.tt ?_ | refine VIf.ff ?_)
 refine VArith.ok (by first | omega | (simp only; omega)) (by first | omega | (simp only; omega)) ?_
 repeat (first | refine VIf.tt ?_ | refine VIf.ff ?_)
 refine VDraw.go (by kernel_rfl) ?_
 repeat (first | refine VIf.tt ?_ | refine VIf.ff ?_)
 refine VRead.mk _ (cellAt hB1 0 rfl) ?_
 repeat (first | refine VIf.tt ?_ | refine VIf.ff ?_)
 refine VRead.mk _ (cellAt hB2 0 rfl) ?_
 repeat (first | refine VIf.tt ?_ | refine VIf.ff ?_)
 refine VArith.ok (by show _ ≤ s - t; omega) (by show s - t ≤ _; omega) ?_
 repeat (first | refine VIf.tt ?_ | refine VIf.ff ?_)
 refine VArith.ok (by show _ ≤ -((y - x) * s); omega) (by show -((y - x) * s) ≤ _; omega) ?_
 repeat (first | refine VIf.tt ?_ | refine VIf.ff ?_)
 refine VRead.mk _ (cellAt hB1 0 rfl) ?_
 repeat (first | refine VIf.tt ?_ | refine VIf.ff ?_)
 refine VRead.mk _ (cellAt hB2 0 rfl) ?_
 repeat (first | refine VIf.tt ?_ | refine VIf.ff ?_)
 refine VArith.ok (by show _ ≤ s - t; omega) (by show s - t ≤ _; omega) ?_
 repeat (first | refine VIf.tt ?_ | refine VIf.ff ?_)
 refine VFn.p (floorC_fn ((y - x) * s) (s - t) M hst (by omega) (by omega) (by omega)) ?_
 repeat (first | refine VIf.tt ?_ | refine VIf.ff ?_)
 refine VArith.ok (by show _ ≤ x + flr ((y - x) * s) (s - t); omega) (by show x + flr ((y - x) * s) (s - t) ≤ _; omega) ?_
 repeat (first | refine VIf.tt ?_ | refine VIf.ff ?_)
 refine VFn.p (floorC_fn (-((y - x) * s)) (s - t) M hst (by omega) (by omega) (by omega)) ?_
 repeat (first | refine VIf.tt ?_ | refine VIf.ff ?_)
 refine VArith.ok (by show _ ≤ x - flr (-((y - x) * s)) (s - t); omega) (by show x - flr (-((y - x) * s)) (s - t) ≤ _; omega) ?_
 repeat (first | refine VIf.tt ?_ | refine VIf.ff ?_)
 exact VFact.mk ⟨rfl, rfl⟩ trivial
def twoF (a b : Int) (i : Nat) : Int := if i = 0 then a else b
def frmL (a b : Pt) (s t : Int) (i j : Nat) : List Pt := (frameP a b s t).take (2 * i + j)
theorem frmL_step (a b : Pt) (s t : Int) {i j : Nat} (hi : i < 2) (hj : j < 2) : frmL a b s t i (j + 1) = frmL a b s t i j ++ [(twoF (lo1 a.1 b.1 s t) (hi1 a.1 b.1 s t) i, twoF (lo1 a.2 b.2 s t) (hi1 a.2 b.2 s t) j)] := by
 match i, hi, j, hj with
 | 0, _, 0, _ => rfl
 | 0, _, 1, _ => rfl
 | 1, _, 0, _ => rfl
 | 1, _, 1, _ => rfl
theorem frmL_row (a b : Pt) (s t : Int) {i : Nat} : frmL a b s t i 2 = frmL a b s t (i + 1) 0 := by unfold frmL; congr 1
theorem frmL_len (a b : Pt) (s t : Int) (i j : Nat) : (frmL a b s t i j).length ≤ 4 := by unfold frmL; rw [List.length_take]; exact Nat.min_le_right _ _
theorem two_cell (x y : Int) {i : Nat} (h : i < 2) : ([.int .i64 x, .int .i64 y] : List Value)[i * 1 + 0]? = some (.int .i64 (twoF x y i)) := by
 match i, h with
 | 0, _ => rfl
 | 1, _ => rfl
theorem one_at {xs : List Value} {off : Nat} {x : Value} (h : xs[off + 0]? = some x) : ∀ (j : Nat) (v : Value), [x][j]? = some v → xs[off + j]? = some v
 | 0, v, hj => by rw [← hj]; exact h
 | j + 1, v, hj => by simp at hj
theorem lohi_bd {x y s t : Int} (hx : isC x) (hy : isC y) (hc : crossesB s t = true) : (-500000 ≤ lo1 x y s t ∧ lo1 x y s t ≤ 500000) ∧ -500000 ≤ hi1 x y s t ∧ hi1 x y s t ≤ 500000 := by
 unfold isC at hx hy
 have h1 := frame_box (a := (x, x)) (b := (y, y)) (y := (lo1 x y s t, lo1 x y s t)) hc (by simp [frameP]) (m1 := -500000) (M1 := 500000) (m2 := -500000) (M2 := 500000) ⟨hx.1, hx.2, hx.1, hx.2⟩ ⟨hy.1, hy.2, hy.1, hy.2⟩
 have h2 := frame_box (a := (x, x)) (b := (y, y)) (y := (hi1 x y s t, hi1 x y s t)) hc (by simp [frameP]) (m1 := -500000) (M1 := 500000) (m2 := -500000) (M2 := 500000) ⟨hx.1, hx.2, hx.1, hx.2⟩ ⟨hy.1, hy.2, hy.1, hy.2⟩
 exact ⟨⟨h1.1, h1.2.1⟩, h2.1, h2.2.1⟩
set_option maxRecDepth 20000 in
theorem frameC_fn (a b : Pt) (s t : Int) (M : Mem) (ha : placeB a = true) (hb : placeB b = true) (hs : -2000000000000 ≤ s ∧ s ≤ 2000000000000) (ht : -2000000000000 ≤ t ∧ t ≤ 2000000000000) (hc : crossesB s t = true) :
  V.Fn Tryz.prog 96 [ptv a, ptv b, .int .i64 s, .int .i64 t] M fun rs M' => ∃ u, rs = [u] ∧ Pts M' u (frameP a b s t) := by
 refine Fn.of_vc cxOK Tryz.func96 rfl rfl rfl ?_
 have pa := place_C ha
 have pb := place_C hb
 have hne := crosses_ne hc
 have bx := lohi_bd (s := s) (t := t) pa.1 pb.1 hc
 have bY := lohi_bd (s := s) (t := t) pa.2 pb.2 hc
 repeat (first | refine VIf.tt ?_ | refine VIf.ff ?_)
 refine VOwn.frz ?_
 repeat (first | refine VIf.tt ?_ | refine VIf.ff ?_)
 refine VFzB.mk fun z1 B1 N1 hN1 hB1 => ?_
 repeat (first | refine VIf.tt ?_ | refine VIf.ff ?_)
 refine VFzB.mk fun z2 B2 N2 hN2 hB2 => ?_
 have hB1 : N1 B1 = some (.cells #[.int .i64 s] 3 (0, 0)) := hB1
 have hB2 : N2 B2 = some (.cells #[.int .i64 t] 3 (0, 0)) := hB2
 have hB1 := hN2 _ _ hB1
 repeat (first | refine VIf.tt ?_ | refine VIf.ff ?_)
 refine VFn.p (endsC_fn a.1 b.1 s t B1 B2 N2 hB1 hB2 pa.1 pb.1 hs ht hne bx) ?_
 repeat (first | refine VIf.tt ?_ | refine VIf.ff ?_)
 refine VCode.loop cxOK Nat
  (fun i => ⟨[(4, .box 0 0), (5, .box 1 0), (9, .clo 117 [] [.v (.pointer (some ⟨B1, 0, none⟩)), .v (.pointer (some ⟨B2, 0, none⟩))]), (10, .row 2), (21, .v (.agg #[.int .i64 (lo1 a.1 b.1 s t), .int .i64 (hi1 a.1 b.1 s t)])), (22, .v (.int .i64 i))],
   [(2, some (.row 24 2 (frmL a b s t i 0).length (cellsP (frmL a b s t i 0)))), (1, some (.box 24 [.v (.int .i64 b.1), .v (.int .i64 b.2)])), (0, some (.box 24 [.v (.int .i64 a.1), .v (.int .i64 a.2)]))], 3, N2, 43, ⟨fun _ => none, none, fun _ => none⟩⟩)
  (fun i => i ≤ 2) (fun i => 2 - i) 0 (Nat.zero_le _) ?_ ?_
 ·exact Wk.nil 10 24 2 rfl (Wk.mk' (fun k => if k = 2 then 4 else k) (by repeat' constructor) (by repeat' constructor) (by simp [injOK]) rfl rfl rfl)
 rintro i hi m
 have hi : i ≤ 2 := hi
 repeat (first | refine VIf.tt ?_ | refine VIf.ff ?_)
 refine VIf.mk (fun hlt => ?_) (fun hge => ?_)
 rotate_left
 ·have : i = 2 := by have := of_decide_eq_false hge; omega
  subst this
  repeat (first | refine VIf.tt ?_ | refine VIf.ff ?_)
  refine VFz.mk fun u B N4 hN4 hu => ?_
  repeat (first | refine VIf.tt ?_ | refine VIf.ff ?_)
  exact VFact.mk ⟨u, rfl, hu⟩ trivial
 have hlt : i < 2 := by have := of_decide_eq_true hlt; omega
 repeat (first | refine VIf.tt ?_ | refine VIf.ff ?_)
 refine VIdxR.mk i rfl hlt ?_
 repeat (first | refine VIf.tt ?_ | refine VIf.ff ?_)
 refine VCells.mk [.int .i64 (twoF (lo1 a.1 b.1 s t) (hi1 a.1 b.1 s t) i)] rfl (one_at (two_cell _ _ hlt)) ⟨_, rfl, ?_⟩
 repeat (first | refine VIf.tt ?_ | refine VIf.ff ?_)
 refine VFn.p (endsC_fn a.2 b.2 s t B1 B2 N2 hB1 hB2 pa.2 pb.2 hs ht hne bY) ?_
 repeat (first | refine VIf.tt ?_ | refine VIf.ff ?_)
 refine VCode.loop cxOK Nat
  (fun j => ⟨[(4, .box 0 0), (5, .box 1 0), (9, .clo 117 [] [.v (.pointer (some ⟨B1, 0, none⟩)), .v (.pointer (some ⟨B2, 0, none⟩))]), (10, .row 2), (12, .v (.int .i64 (twoF (lo1 a.1 b.1 s t) (hi1 a.1 b.1 s t) i))), (21, .v (.agg #[.int .i64 (lo1 a.1 b.1 s t), .int .i64 (hi1 a.1 b.1 s t)])), (22, .v (.int .i64 i)), (30, .v (.agg #[.int .i64 (lo1 a.2 b.2 s t), .int .i64 (hi1 a.2 b.2 s t)])), (31, .v (.int .i64 j))],
   [(2, some (.row 24 2 (frmL a b s t i j).length (cellsP (frmL a b s t i j)))), (1, some (.box 24 [.v (.int .i64 b.1), .v (.int .i64 b.2)])), (0, some (.box 24 [.v (.int .i64 a.1), .v (.int .i64 a.2)]))], 3, N2, 43, ⟨fun _ => none, none, fun _ => none⟩⟩)
  (fun j => j ≤ 2) (fun j => 2 - j) 0 (Nat.zero_le _) (Wk.mk' id (by repeat' constructor) (by repeat' constructor) (injOK_id _) rfl rfl rfl) ?_
 rintro j hj m
 have hj : j ≤ 2 := hj
 repeat (first | refine VIf.tt ?_ | refine VIf.ff ?_)
 refine VIf.mk (fun hlj => ?_) (fun hgj => ?_)
 ·have hlj : j < 2 := by have := of_decide_eq_true hlj; omega
  have hlen := frmL_len a b s t i j
  repeat (first | refine VIf.tt ?_ | refine VIf.ff ?_)
  refine VIdxR.mk j rfl hlj ?_
  repeat (first | refine VIf.tt ?_ | refine VIf.ff ?_)
  refine VCells.mk [.int .i64 (twoF (lo1 a.2 b.2 s t) (hi1 a.2 b.2 s t) j)] rfl (one_at (two_cell _ _ hlj)) ⟨_, rfl, ?_⟩
  repeat (first | refine VIf.tt ?_ | refine VIf.ff ?_)
  refine VFact.mk (by show ((frmL a b s t i j).length + 1) * 16 ≤ _; omega) ?_
  repeat (first | refine VIf.tt ?_ | refine VIf.ff ?_)
  refine VArith.ok (by first | omega | (simp only; omega)) (by first | omega | (simp only; omega)) ?_
  refine ⟨j + 1, hlj, (by first | omega | (simp only; omega)), Wk.mk' (fun k => if k = 2 then 4 else k) (by repeat' constructor) ⟨⟨rfl, ⟨rfl, rfl, ?_, ?_⟩⟩, ⟨rfl, by repeat' constructor⟩, ⟨rfl, by repeat' constructor⟩, trivial⟩ (by simp [injOK]) rfl rfl rfl⟩
  ·rw [frmL_step a b s t hlt hlj]; simp
  ·rw [frmL_step a b s t hlt hlj]; simp [cellsP]
 ·have : j = 2 := by have := of_decide_eq_false hgj; omega
  subst this
  repeat (first | refine VIf.tt ?_ | refine VIf.ff ?_)
  refine VArith.ok (by first | omega | (simp only; omega)) (by first | omega | (simp only; omega)) ?_
  refine ⟨i + 1, hlt, (by first | omega | (simp only; omega)), Wk.mk' id (by repeat' constructor) ⟨⟨rfl, ⟨rfl, rfl, ?_, ?_⟩⟩, ⟨rfl, by repeat' constructor⟩, ⟨rfl, by repeat' constructor⟩, trivial⟩ (injOK_id _) rfl rfl rfl⟩
  ·exact congrArg List.length (frmL_row a b s t)
  ·exact congrArg cellsP (frmL_row a b s t)
end Go.Proofs.YtdfhnemhkpplbaaGreatDoor
namespace Go.Proofs.YtdfhnemhkpplbaaGreatDoor
open Go
end Go.Proofs.YtdfhnemhkpplbaaGreatDoor
namespace Go.V
open Go Go.RowKit
variable {P : Program}
inductive VBoth (A B : Prop) : Prop
 | mk (h : A) (k : B)
def allC : List Nat → (Nat → Prop) → Prop
 | [], _ => VStuck 220
 | i :: r, p => match r with
  | [] => p i
  | _ => VBoth (p i) (allC r p)
theorem VCode.frz {c : Code} {st : St} {Q : Ex → St → Prop} (ds : List Nat) (walk : frzSl st ds fun st1 => VCode P c st1 Q) : VCode P c st Q := by
 refine ⟨fun r n κ B ρ a W fx tm hY hr hκ h hwr hkp => ?_⟩
 obtain ⟨st1, h1, hG1, hk⟩ := frzSl_sound h walk
 have := hk.run r n κ B ρ a W fx tm hY (by rw [hG1]; exact hr) (by rw [hG1]; exact hκ) h1 hwr hkp
 rw [hG1] at this
 exact this
end Go.V
namespace Go.Proofs.YtdfhnemhkpplbaaGreatDoor
open Go Go.V Go.RowKit
end Go.Proofs.YtdfhnemhkpplbaaGreatDoor
namespace Go.Proofs.YtdfhnemhkpplbaaGreatDoor
open Go Go.V Go.RowKit
end Go.Proofs.YtdfhnemhkpplbaaGreatDoor
namespace Go.Proofs.YtdfhnemhkpplbaaGreatDoor
open Go Go.V Go.RowKit
end Go.Proofs.YtdfhnemhkpplbaaGreatDoor
namespace Go.Proofs.YtdfhnemhkpplbaaGreatDoor
open Go Go.V Go.RowKit
end Go.Proofs.YtdfhnemhkpplbaaGreatDoor
namespace Go.Proofs.YtdfhnemhkpplbaaGreatDoor
open Go Go.V Go.RowKit
end Go.Proofs.YtdfhnemhkpplbaaGreatDoor
namespace Go.Proofs.YtdfhnemhkpplbaaGreatDoor
open Go Go.V Go.RowKit
end Go.Proofs.YtdfhnemhkpplbaaGreatDoor
namespace Go.Proofs.YtdfhnemhkpplbaaGreatDoor
open Go Go.V Go.RowKit
end Go.Proofs.YtdfhnemhkpplbaaGreatDoor
namespace Go.Proofs.YtdfhnemhkpplbaaGreatDoor
open Go Go.V Go.RowKit
end Go.Proofs.YtdfhnemhkpplbaaGreatDoor
namespace Go.Proofs.YtdfhnemhkpplbaaGreatDoor
open Go Go.V Go.RowKit
end Go.Proofs.YtdfhnemhkpplbaaGreatDoor
namespace Go.Proofs.YtdfhnemhkpplbaaGreatDoor
open Go Go.V Go.RowKit
end Go.Proofs.YtdfhnemhkpplbaaGreatDoor
namespace Go.Proofs.YtdfhnemhkpplbaaGreatDoor
open Go Go.V Go.RowKit
end Go.Proofs.YtdfhnemhkpplbaaGreatDoor
namespace Go.Proofs.YtdfhnemhkpplbaaGreatDoor
open Go Go.V Go.RowKit
end Go.Proofs.YtdfhnemhkpplbaaGreatDoor
namespace Go.Proofs.YtdfhnemhkpplbaaGreatDoor
open Go Go.V Go.RowKit
end Go.Proofs.YtdfhnemhkpplbaaGreatDoor
namespace Go.Proofs.YtdfhnemhkpplbaaGreatDoor
open Go Go.V Go.RowKit
end Go.Proofs.YtdfhnemhkpplbaaGreatDoor
namespace Go.Proofs.YtdfhnemhkpplbaaGreatDoor
open Go Go.V Go.RowKit
end Go.Proofs.YtdfhnemhkpplbaaGreatDoor
namespace Go.Proofs.YtdfhnemhkpplbaaGreatDoor
open Go Go.V Go.RowKit
theorem rdAt {M : Mem} {B : Nat} {cs : Array Value} {t : TypeId} (h : M B = some (.cells cs t (0, 0))) : ∀ (j : Nat) u, cs.toList[j]? = some u → M.cell ((⟨B, 0, none⟩ : Addr).add j) = some u := fun j _ hu => cellAt h j (by simpa using hu)
end Go.Proofs.YtdfhnemhkpplbaaGreatDoor
namespace Go.Proofs.YtdfhnemhkpplbaaGreatDoor
open Go Go.V Go.RowKit
end Go.Proofs.YtdfhnemhkpplbaaGreatDoor
namespace Go.V
open Go Go.RowKit
variable {P : Program}
def FnRow (P : Program) (f : Nat) (args : List Value) (M : Mem) (E sz : Nat) (R : Nat → List Value → Mem → Prop) : Prop :=
 Enters P f ∧ ∀ W, M.ok W → Calls P f args.toArray W fun e W' => ∃ v n xs M', e = .returned v ∧ W'.ownsRow W.heap.size E sz v n xs ∧ (∀ x ∈ xs, x.oneCell' = true) ∧ (∀ b, ob v = some b → M' b = none) ∧
  Below W.heap.size W W' ∧ M.le M' ∧ M'.ok W' ∧ (∀ b, b < W.heap.size → M' b = M b) ∧ R n xs M'
def finRow (C : VX) (fn : Func) (E sz : Nat) (R : Nat → List Value → Mem → Prop) (e : Ex) (st : St) : Prop :=
 match e with
 | .exit _ => VStuck 180
 | _ => match resSV C st fn.results.toList with
  | some [.row id] => match st.own id with
   | some (.row E' sz' n xs) => match Nat.beq E' E && Nat.beq sz' sz with
    | true => st.withM fun M => VFact (R n xs M) True
    | false => VStuck 181
   | _ => VStuck 182
  | _ => VStuck 183
theorem FnRow.of_vc {C : VX} (hC : VXOK P C) {f : Nat} {fn : Func} {c : Code} (hf : P.funcs[f]? = some fn) (hb : fn.body = some c) (hname : (fn.name == "runtime.NumGoroutine") = false)
  {args : List Value} (hnt : Nat.ble args.length fn.ntmps = true) {M : Mem} {E sz : Nat} {R : Nat → List Value → Mem → Prop} (h : vc C P c (st0 args M fn.ntmps none) (finRow C fn E sz R)) : FnRow P f args M E sz R := by
 refine ⟨Go.Proofs.enters_of hf hname hb, fun W hW => ?_⟩
 refine (callsIn_wide (n := 100)).1 (callsIn_of_wp_marks hf hb trivial ?_ rfl)
 have hle := Nat.le_of_ble_eq_true hnt
 have hs0 : Sat W.heap.size W M (fun _ => undef) (st0 args M fn.ntmps none) { tmps := args.toArray ++ Array.replicate (fn.ntmps - args.toArray.size) undef, defers := [] } W := by
  refine ⟨⟨Below.refl _ _, Nat.le_refl _, hW, ?_, ?_, ?_, ?_, fun _ _ => rfl, fun b o hb => by cases hb⟩, by simp [st0]; omega, ?_, trivial⟩
  ·intro id e he; simp [St.own, st0, look] at he
  ·intro i j ei ej hi; simp [St.own, st0, look] at hi
  ·intro i e b hi; simp [St.own, st0, look] at hi
  ·intro b o hb; cases hb
  ·intro d s hd
   obtain ⟨h1, h2, v, h3, rfl⟩ := argSlots_look args 0 d s hd
   refine ⟨by simp [st0]; omega, trivial, ?_⟩
   simp only [Nat.sub_zero] at h3
   rw [Array.getElem?_append_left (by simp; omega)]
   simp only [SV.den, List.getElem?_toArray]
   exact h3
 have := vc_sound (r := none) (n := 100) hC (κ := fun Y B => Y = none ∧ B = ⟨W.heap.size, W, M⟩) (fun l tag args rest B M W hκ => by cases hκ.1) (fx := fun _ => False) (tm := #[]) (B := ⟨W.heap.size, W, M⟩) c h (fun l hl => by cases hl) ⟨rfl, rfl⟩ hs0 (wr_false c) (fun d hd => hd.elim)
 refine wpIn_mono this ?_
 rintro e a' W' ⟨⟨ex, he, B, ρ, st, ⟨_, rfl⟩, h1, h2, h3⟩, _⟩
 have main : (e = .normal ∨ e = .ret) → LeavesInM (Fw none) 100 P fn a'.tmps (fun e W'' => ∃ v n xs M', e = .returned v ∧ W''.ownsRow W.heap.size E sz v n xs ∧ (∀ x ∈ xs, x.oneCell' = true) ∧ (∀ b, ob v = some b → M' b = none) ∧
  Below W.heap.size W W'' ∧ M.le M' ∧ M'.ok W'' ∧ (∀ b, b < W.heap.size → M' b = M b) ∧ R n xs M') a'.defers .returning W' := by
  intro hcase
  have h3' : (match resSV C st fn.results.toList with
   | some [.row id] => match st.own id with
    | some (.row E' sz' n xs) => match Nat.beq E' E && Nat.beq sz' sz with
     | true => st.withM fun M => VFact (R n xs M) True
     | false => VStuck 181
    | _ => VStuck 182
   | _ => VStuck 183) := by
   rcases hcase with rfl | rfl <;> cases he <;> exact h3
  split at h3'
  ·rename_i id hrs
   split at h3'
   ·rename_i E' sz' n xs hid
    split at h3'
    ·rename_i hb2
     simp only [Bool.and_eq_true] at hb2
     have e1 := Nat.eq_of_beq_eq_true hb2.1
     have e2 := Nat.eq_of_beq_eq_true hb2.2
     subst e1 e2
     obtain ⟨hR, _⟩ := withM_iff h3'
     have hsl : ∀ d s, look st.sl d = some s → s.sc st.nx ∧ a'.tmps[d]? = some (s.den ρ) := fun d s hd => ⟨(h1.sl d s hd).2.1, (h1.sl d s hd).2.2⟩
     have hres := fun (G : Gh) (W'' : World) (hS : SatH W.heap.size W M ρ { st with G := G } W'') => results_run (tmps := a'.tmps) (st := { st with G := G }) hC hS hsl fn.results.toList (r := [.row id]) (by rw [resSV_G]; exact hrs)
     refine leaves_of a'.defers h1.h h1.h rfl (fun b => by rw [h2.2]; rfl) h1.marks ?_
     intro G W'' s1 s2
     obtain ⟨k1, k2, k3, k4⟩ := s2.own id _ hid
     have hv : slOf (ρ id) = ρ id := ownsRow_isSl k3
     refine ⟨slOf (ρ id), ?_, slOf (ρ id), n, xs, st.M, rfl, by rw [hv]; exact k3, k4, ?_, s2.below, ?_, s2.mem, s2.mlow, hR⟩
     ·have hr := (hres G W'' s1).1
      exact results_ret fn a'.tmps P [slOf (ρ id)] W'' hr
     ·intro b hb
      rw [hv] at hb
      exact s2.msep id _ b hid hb
     ·intro b o hb
      have hlt := (Array.getElem?_eq_some_iff.1 (hW b o hb)).1
      rw [s2.mlow b hlt]; exact hb
    ·cases h3'
   ·cases h3'
  ·cases h3'
 cases e with
 | normal => exact main (.inl rfl)
 | ret => exact main (.inr rfl)
 | exit i => cases he; cases h3
 | goto => cases he
 | panic => cases he
 | outgrown => cases he
theorem SatH.more {n₀ : Nat} {w : World} {M₀ : Mem} {ρ : Env} {st : St} {W W' : World} (h : SatH n₀ w M₀ ρ st W) {E sz n : Nat} {xs : List Value} {v : Value} {M' : Mem} (hb : Below W.heap.size W W') (hrow : W'.ownsRow W.heap.size E sz v n xs) (h1 : ∀ x ∈ xs, x.oneCell' = true)
  (hnone : ∀ b, ob v = some b → M' b = none) (hM : M'.ok W') (hnew : ∀ b, b < W.heap.size → M' b = st.M b) : SatH n₀ w M₀ (upd ρ st.nx v) { st.add (.row E sz n xs) with M := M' } W' := by
 have hob : ∀ b, ob v = some b → W.heap.size ≤ b := fun b hb' => by
  rcases hrow.2 with ⟨rfl, _⟩ | ⟨g, cap, cur, rfl, hg, _⟩
  ·cases hb'
  ·simp [ob] at hb'; omega
 have hrow' : W'.ownsRow n₀ E sz v n xs := by
  refine ⟨hrow.1, ?_⟩
  rcases hrow.2 with h2 | ⟨g, cap, cur, h2, hg, r⟩
  ·exact .inl h2
  ·exact .inr ⟨g, cap, cur, h2, Nat.le_trans h.size hg, r⟩
 have key := h.add (.row E sz n xs) v hb trivial (by exact ⟨by rw [upd_same]; exact hrow', h1⟩) hob
 have old : ∀ i ei b, st.own i = some ei → ob (ρ i) = some b → b < W.heap.size := fun i ei b hi hb' => ((h.own i ei hi).2.2.lt b hb').2.1
 refine ⟨key.below, key.size, hM, key.own, key.sep, ?_, ?_, ?_, key.fpin⟩
 ·intro i e b hi hbb
  have hi' : (st.add (.row E sz n xs)).own i = some e := hi
  rw [own_add] at hi'
  by_cases e1 : i = st.nx
  ·subst e1
   rw [upd_same] at hbb
   exact hnone b hbb
  ·rw [if_neg e1] at hi'
   rw [agree_upd ρ st.nx v i (h.own i e hi').1] at hbb
   show M' b = none
   rw [hnew b (old i e b hi' hbb)]
   exact h.msep i e b hi' hbb
 ·intro b o hbo
  obtain ⟨k1, k2, k3⟩ := h.pin b o hbo
  have hlt := (Array.getElem?_eq_some_iff.1 k2).1
  refine ⟨k1, (hb.block b hlt).trans k2, ?_⟩
  show M' b = none
  rw [hnew b hlt]; exact k3
 ·intro b hb'
  show M' b = M₀ b
  rw [hnew b (Nat.lt_of_lt_of_le hb' h.size)]
  exact h.mlow b hb'
theorem VCall.ofRow {f : Nat} {vs : List Value} {st : St} {K : SV → St → Prop} {E sz : Nat} {R : Nat → List Value → Mem → Prop} (hF : FnRow P f vs st.M E sz R)
  (hK : ∀ n xs M', st.M.le M' → R n xs M' → K (.row st.nx) ⟨st.sl, (st.nx, some (.row E sz n xs)) :: st.ow, st.nx + 1, M', st.nt, st.G⟩) : VCall P f (vs.map .v) st K := by
 refine ⟨hF.1, fun n₀ w M₀ ρ W hS hsa hss => ?_⟩
 have e : (vs.map SV.v).map (SV.den ρ) = vs := by rw [List.map_map]; exact (List.map_congr_left fun _ _ => rfl).trans (List.map_id vs)
 rw [e]
 refine (hF.2 W hS.mem).mono ?_
 rintro e W' ⟨v, n, xs, M', rfl, k1, k2, k3, k4, k5, k6, k7, k8⟩
 refine ⟨.row st.nx, _, upd ρ st.nx v, ?_, Nat.lt_succ_self _, hS.more k4 k1 k2 k3 k6 k7, ?_, rfl, rfl, hK n xs M' k5 k8⟩
 ·simp only [SV.den, upd_same]
  rw [ownsRow_isSl k1]
 ·intro d s hd
  have hs := hss d s hd
  exact ⟨SV.sc_mono (Nat.le_succ _) hs, s, hd, SV.den_agree (agree_upd ρ st.nx _) hs⟩
theorem VCall.ofRowM {f : Nat} {vs : List Value} {st : St} {K : SV → St → Prop} {E sz : Nat} {R : Nat → List Value → Mem → Prop} {M : Mem} (hF : FnRow P f vs M E sz R) (hM : st.M = M)
  (hK : ∀ n xs M', M.le M' → R n xs M' → K (.row st.nx) ⟨st.sl, (st.nx, some (.row E sz n xs)) :: st.ow, st.nx + 1, M', st.nt, st.G⟩) : VCall P f (vs.map .v) st K := by
 subst hM
 exact VCall.ofRow hF hK
theorem SatH.frzRow {n₀ : Nat} {w : World} {M₀ : Mem} {ρ : Env} {st : St} {W : World} (h : SatH n₀ w M₀ ρ st W) {id E sz n : Nat} {xs : List Value} (hid : st.own id = some (.row E sz n xs)) :
  ∃ M', st.M.le M' ∧ SlAt M' sz (slOf (ρ id)) n xs ∧ SatH n₀ w M₀ ρ { st with ow := (id, none) :: st.ow, M := M' } W := by
 obtain ⟨g1, _, ho, h1⟩ := h.own id _ hid
 rcases ho.2 with ⟨hv, h0⟩ | ⟨g, cap, cur, hg, hge, hh, hnc, hcm, hcs, ht⟩
 ·subst h0
  exact ⟨st.M, Mem.le_refl _, ⟨none, 0, by rw [hv]; rfl, Nat.le_refl _, by simp [maxLen], ho.1, h1, fun h => absurd h (Nat.lt_irrefl _)⟩, h.kill id⟩
 ·have hob : ob (ρ id) = some g := by simp [hg, ob]
  obtain ⟨f1, f2⟩ := h.freeze hid hob hh
  refine ⟨_, f2, ⟨some ⟨g, 0, none⟩, cap, by rw [hg]; rfl, hnc, hcm, ho.1, h1, fun _ => ⟨_, rfl, fun j v hj => ?_⟩⟩, f1⟩
  rw [Addr.add_none]
  have hb : (st.M.with g (.cells cur E (0, 0))) g = some (.cells cur E (0, 0)) := by simp [Mem.with]
  rw [← ht, List.getElem?_take] at hj
  split at hj
  ·simp only [Mem.cell, hb, Option.isSome_none, Bool.false_eq_true, if_false, Nat.zero_add]
   simpa using hj
  ·cases hj
theorem VCall.ofRow1 {f id : Nat} {st : St} {K : SV → St → Prop} {E0 sz0 n0 : Nat} {xs0 : List Value} {E sz : Nat} {R : Nat → List Value → Mem → Prop} (hid : st.own id = some (.row E0 sz0 n0 xs0)) (he : Enters P f)
  (hF : ∀ x M1, st.M.le M1 → SlAt M1 sz0 x n0 xs0 → FnRow P f [x] M1 E sz R)
  (hK : ∀ n xs M', st.M.le M' → R n xs M' → K (.row st.nx) ⟨st.sl, (st.nx, some (.row E sz n xs)) :: (id, none) :: st.ow, st.nx + 1, M', st.nt, st.G⟩) : VCall P f [.row id] st K := by
 refine ⟨he, fun n₀ w M₀ ρ W hS hsa hss => ?_⟩
 obtain ⟨M1, l1, s1, hS1⟩ := hS.frzRow hid
 have hF1 := hF _ M1 l1 s1
 show Calls P f #[slOf (ρ id)] W _
 refine (hF1.2 W hS1.mem).mono ?_
 rintro e W' ⟨v, n, xs, M', rfl, k1, k2, k3, k4, k5, k6, k7, k8⟩
 refine ⟨.row st.nx, _, upd ρ st.nx v, ?_, Nat.lt_succ_self _, hS1.more k4 k1 k2 k3 k6 k7, ?_, rfl, rfl, hK n xs M' (l1.trans k5) k8⟩
 ·simp only [SV.den, upd_same]
  rw [ownsRow_isSl k1]
 ·intro d s hd
  have hs := hss d s hd
  exact ⟨SV.sc_mono (Nat.le_succ _) hs, s, hd, SV.den_agree (agree_upd ρ st.nx _) hs⟩
end Go.V
namespace Go.Proofs.YtdfhnemhkpplbaaGreatDoor
open Go Go.V Go.RowKit Go.Shelf
def grRen : Ren where
 f := fun
  | 4 => 143
  | n => n
 t := fun
  | 0 => 0
  | 3 => 3
  | 4 => 4
  | 9 => 9
  | 20 => 20
  | 22 => 27
  | 25 => 24
  | n => n
 g := fun n => n
theorem grLay : Lays8.n4 Tryz.prog grRen where
 mixed := rfl
 f4 := ⟨Tryz.f143.name, by kernel_rfl, Tryz.func143.trans (by kernel_rfl)⟩
 t0 := Tryz.underlying0
 a0 := Tryz.isAgg0
 z0 := Tryz.sizeOf0
 v0 := Tryz.zeroValue0
 t3 := Tryz.underlying3
 a3 := Tryz.isAgg3
 z3 := Tryz.sizeOf3
 v3 := Tryz.zeroValue3
 t4 := Tryz.underlying4
 a4 := Tryz.isAgg4
 z4 := Tryz.sizeOf4
 v4 := Tryz.zeroValue4
 t9 := Tryz.underlying9
 a9 := Tryz.isAgg9
 z9 := Tryz.sizeOf9
 v9 := Tryz.zeroValue9
 t20 := Tryz.underlying20
 a20 := Tryz.isAgg20
 z20 := Tryz.sizeOf20
 v20 := Tryz.zeroValue20
 t22 := Tryz.underlying27
 a22 := Tryz.isAgg27
 z22 := Tryz.sizeOf27
 v22 := Tryz.zeroValue27
theorem Grow_call {n : Nat} {st : St} {K : SV → St → Prop} (h1 : 0 < n) (h2 : n ≤ 100000) (hK : K (.row st.nx) (st.add (.row 24 2 0 []))) :
  VCall Tryz.prog 143 [.v (.slice none 0 0), .v (.int .i64 n)] st K := by
 obtain ⟨i0, z, hi0, hs0, hz0, hzc, hb0⟩ := ty24.inf
 have hsz : i0.size = 2 := hs0
 have hby : i0.bytes = 16 := hb0
 refine ⟨enters_of Tryz.func143 (by kernel_rfl) rfl, fun n₀ w M₀ ρ W hS hsa hss => ?_⟩
 have key := Any8.slices_Grow_grow grLay i0 z hi0 hz0 (by rw [hsz]; decide) none 0 0 n [] W (Nat.le_refl _) (by omega) (by rw [hby]; omega) (by omega) (by simp) (fun _ => rfl) (fun a h => by cases h)
 refine key.mono ?_
 rintro e W' ⟨rfl, rfl⟩
 have hG := grownCap_ge W (0 + n) 0 (grRen.t 25)
 have hG2 := grownCap_le_maxLen W (0 + n) 0 (grRen.t 25) (by unfold maxLen; omega)
 generalize grownCap W (0 + n) 0 (grRen.t 25) = cap at *
 refine ⟨.row st.nx, st.add (.row 24 2 0 []), upd ρ st.nx (.slice (some ⟨W.heap.size, 0, none⟩) 0 cap), ?_, ?_, ?_, ?_, rfl, rfl, hK⟩
 ·simp [SV.den, upd_same, slOf]
 ·exact Nat.lt_succ_self _
 ·refine hS.add _ _ (((Below.refl _ W).drew).alloc (Nat.le_refl _) _) trivial ?_ ?_
  ·refine ⟨⟨rfl, .inr ⟨W.heap.size, cap, #[] ++ Builtin.zeroCells z.cells (0 + n - 0) ++ Builtin.zeroCells z.cells (cap - (0 + n)), upd_same _ _ _, hS.size, heap_alloc_new _ _, Nat.zero_le _, hG2, ?_, by simp⟩⟩, by simp⟩
   have hz2 : z.cells.size = 2 := by rw [hzc]; rfl
   simp only [Array.size_append, Array.size_empty, size_zeroCells, hz2]
   omega
  ·intro b hb
   simp [ob] at hb
   omega
 ·intro d s hd
  have hs := hss d s hd
  exact ⟨SV.sc_mono (Nat.le_succ _) hs, s, hd, SV.den_agree (agree_upd ρ st.nx _) hs⟩
theorem take_gd {α : Type} (d : α) (l : List α) {i : Nat} (h : i < l.length) : l.take (i + 1) = l.take i ++ [l.getD i d] := by
 rw [List.take_add_one]
 simp only [List.getD_eq_getElem?_getD, List.getElem?_eq_getElem h, Option.getD_some, Option.toList_some]
def sumL (ls : List (List Pt)) : Nat := (ls.map List.length).sum
theorem sumL_take {ls : List (List Pt)} {i : Nat} (h : i < ls.length) : sumL (ls.take (i + 1)) = sumL (ls.take i) + (gr ls i).length := by
 unfold sumL gr
 rw [take_gd [] ls h, List.map_append, List.sum_append]; rfl
theorem sumL_flat (ls : List (List Pt)) : sumL ls = ls.flatten.length := by unfold sumL; rw [List.length_flatten]
theorem flat_take {ls : List (List Pt)} {i : Nat} (h : i < ls.length) : (ls.take (i + 1)).flatten = (ls.take i).flatten ++ gr ls i := by
 unfold gr
 rw [take_gd [] ls h, List.flatten_append]; simp
theorem sumL_le (ls : List (List Pt)) (i : Nat) : sumL (ls.take i) ≤ sumL ls := by
 rw [sumL_flat, sumL_flat]
 have := congrArg List.length (congrArg List.flatten (List.take_append_drop i ls))
 rw [List.flatten_append, List.length_append] at this
 omega
set_option maxRecDepth 20000 in
set_option maxHeartbeats 2000000 in
theorem Concat_fn (v : Value) (ls : List (List Pt)) (M : Mem) (hv : RegV M v ls) (h0 : 0 < ls.flatten.length) (h1 : ls.flatten.length ≤ 100000) :
  FnRow Tryz.prog 124 [v] M 24 2 fun n xs M' => n = ls.flatten.length ∧ xs = cellsP ls.flatten ∧ M' = M := by
 obtain ⟨ad, c, rfl, hm, hrd⟩ := hv.get
 have hs := sumL_flat ls
 refine FnRow.of_vc cxIOK Tryz.func124 rfl rfl rfl ?_
 repeat (first | refine VIf.tt ?_ | refine VIf.ff ?_)
 refine VCode.loop cxIOK (Nat × Int) (fun s => ⟨[(0, .v (.slice ad ls.length c)), (3, .v (.int .i64 s.2)), (9, .v (.slice ad ls.length c)), (10, .v (.int .i64 ls.length)), (11, .v (.int .i64 s.1))], [], 0, M, 36, ⟨fun _ => none, none, fun _ => none⟩⟩)
  (fun s => s.1 ≤ ls.length ∧ s.2 = (sumL (ls.take s.1) : Nat)) (fun s => ls.length - s.1) (0, 0) ⟨Nat.zero_le _, rfl⟩ (Wk.mk' id (by repeat' constructor) (by repeat' constructor) (injOK_id _) rfl rfl rfl) ?_
 rintro ⟨i, z⟩ ⟨hi, hz⟩ m
 simp only at hi hz
 repeat (first | refine VIf.tt ?_ | refine VIf.ff ?_)
 refine VIf.mk (fun hlt => ?_) (fun hge => ?_)
 ·have hlt : i < ls.length := lt_of_dec hlt
  obtain ⟨ad', w, ead, hw, hw64, hc⟩ := hrd M (Mem.le_refl _) i hlt
  obtain ⟨wd, wc, rfl⟩ := hw.shape
  have hle := sumL_le ls (i + 1)
  have hst : sumL (ls.take (i + 1)) = sumL (ls.take i) + (ls.getD i []).length := sumL_take hlt
  repeat (first | refine VIf.tt ?_ | refine VIf.ff ?_)
  refine VIdx.mk ad' i ead rfl hlt ?_
  repeat (first | refine VIf.tt ?_ | refine VIf.ff ?_)
  refine VRead.mk _ hc ?_
  repeat (first | refine VIf.tt ?_ | refine VIf.ff ?_)
  refine VArith.ok (by simp only; omega) (by simp only; omega) ?_
  repeat (first | refine VIf.tt ?_ | refine VIf.ff ?_)
  refine VIf.mk (fun h => ?_) (fun _ => ?_)
  ·have h := of_decide_eq_true h
   exfalso
   simp only at h
   omega
  repeat (first | refine VIf.tt ?_ | refine VIf.ff ?_)
  refine VArith.ok (by first | omega | (simp only; omega)) (by first | omega | (simp only; omega)) ?_
  exact ⟨(i + 1, z + ((ls.getD i []).length : Nat)), ⟨hlt, by simp only; omega⟩, (by first | omega | (simp only; omega)), (Wk.mk' id (by repeat' constructor) (by repeat' constructor) (injOK_id _) rfl rfl rfl)⟩
 have : i = ls.length := by have := ge_of_dec hge; simp only at this; omega
 subst this
 rw [List.take_length] at hz
 subst hz
 repeat (first | refine VIf.tt ?_ | refine VIf.ff ?_)
 refine VOwn.own (Grow_call (by omega) (by omega) ?_)
 repeat (first | refine VIf.tt ?_ | refine VIf.ff ?_)
 refine VCode.loop cxIOK Nat (fun i => ⟨[(0, .v (.slice ad ls.length c)), (6, .row 0), (25, .v (.slice ad ls.length c)), (26, .v (.int .i64 ls.length)), (27, .v (.int .i64 i))], [(0, some (.row 24 2 (ls.take i).flatten.length (cellsP (ls.take i).flatten)))], 1, M, 36, ⟨fun _ => none, none, fun _ => none⟩⟩)
  (fun i => i ≤ ls.length) (fun i => ls.length - i) 0 (Nat.zero_le _) (Wk.mk' id (by repeat' constructor) (by repeat' constructor) (injOK_id _) rfl rfl rfl) ?_
 intro i hi m
 repeat (first | refine VIf.tt ?_ | refine VIf.ff ?_)
 refine VIf.mk (fun hlt => ?_) (fun hge => ?_)
 ·have hlt : i < ls.length := lt_of_dec hlt
  obtain ⟨ad', w, ead, hw, hw64, hc⟩ := hrd M (Mem.le_refl _) i hlt
  obtain ⟨wd, wc, rfl⟩ := hw.shape
  have hle := sumL_le ls (i + 1)
  have hst : sumL (ls.take (i + 1)) = sumL (ls.take i) + (ls.getD i []).length := sumL_take hlt
  rw [sumL_flat (ls.take i)] at hst
  repeat (first | refine VIf.tt ?_ | refine VIf.ff ?_)
  refine VIdx.mk ad' i ead rfl hlt ?_
  repeat (first | refine VIf.tt ?_ | refine VIf.ff ?_)
  refine VRead.mk _ hc ?_
  repeat (first | refine VIf.tt ?_ | refine VIf.ff ?_)
  refine VSl.mk (ls.getD i []).length (cellsP (ls.getD i [])) hw ?_
  repeat (first | refine VIf.tt ?_ | refine VIf.ff ?_)
  refine VFact.mk (by first | omega | (simp only; omega)) ?_
  repeat (first | refine VIf.tt ?_ | refine VIf.ff ?_)
  refine VArith.ok (by first | omega | (simp only; omega)) (by first | omega | (simp only; omega)) ?_
  refine ⟨i + 1, hlt, (by first | omega | (simp only; omega)), Wk.mk' (fun k => if k = 0 then 1 else k) (by repeat' constructor) ⟨⟨rfl, ⟨rfl, rfl, ?_, ?_⟩⟩, trivial⟩ (by simp [injOK]) rfl rfl rfl⟩
  ·rw [flat_take hlt, List.length_append]; rfl
  ·rw [flat_take hlt, show ls.getD i [] = gr ls i from rfl]; simp [cellsP]
 ·have : i = ls.length := by have := ge_of_dec hge; omega
  subst this
  have e : ls.take ls.length = ls := List.take_length
  repeat (first | refine VIf.tt ?_ | refine VIf.ff ?_)
  exact VFact.mk ⟨by rw [e], by rw [e], rfl⟩ trivial
end Go.Proofs.YtdfhnemhkpplbaaGreatDoor
namespace Go.Proofs.YtdfhnemhkpplbaaGreatDoor
open Go Go.V Go.RowKit
theorem hullB_cases {l : List Pt} (hne : l ≠ []) (hP : ∀ x ∈ l, placeB x = true) : (l.length ≤ 4000 ∧ (aroundP l).length ≤ 64 ∧ hullB l = (aroundP l, 0) ∧ arC l = aroundP l) ∨ (64 < l.length ∧ hullB l = ([], 2) ∧ arC l = octL l) := by
 by_cases h1 : l.length ≤ 4000
 ·have := hullB_mid hP hne h1
  by_cases h2 : (aroundP l).length ≤ 64
  ·rw [if_pos h2] at this
   exact .inl ⟨h1, h2, this, by unfold arC; rw [if_neg hne, if_pos ⟨h1, h2⟩]⟩
  ·rw [if_neg h2] at this
   have hl := hl_len (around_hl hne)
   exact .inr ⟨by omega, this, by unfold arC; rw [if_neg hne, if_neg (fun h => h2 h.2)]⟩
 ·refine .inr ⟨by omega, ?_, by unfold arC; rw [if_neg hne, if_neg (fun h => h1 h.1)]⟩
  unfold hullB; rw [if_pos (by omega)]
theorem cellsP_drop' : ∀ (k : Nat) (ps : List Pt), (cellsP ps).drop (k * 2) = cellsP (ps.drop k)
 | 0, _ => rfl
 | _ + 1, [] => by simp [cellsP]
 | k + 1, p :: ps => by
  have := cellsP_drop' k ps
  rw [show (k + 1) * 2 = k * 2 + 1 + 1 by omega]
  exact this
theorem pts_take {M : Mem} {ad : Option Addr} {c : Nat} {ps : List Pt} (h : Pts M (.slice ad ps.length c) ps) {k : Nat} (hk : k ≤ ps.length) {c' : Nat} (h1 : k ≤ c') (h2 : c' ≤ c) : Pts M (.slice ad k c') (ps.take k) := by
 obtain ⟨a, c0, e, g1, g2, g3, g4, g5⟩ := h
 cases e
 have hl : (ps.take k).length = k := by rw [List.length_take]; omega
 refine ⟨ad, c', by rw [hl], by rw [hl]; exact h1, by omega, ?_, fun v hv => ?_, fun hn => ?_⟩
 ·rw [← cellsP_take, List.length_take, g3, hl]; omega
 ·rw [← cellsP_take] at hv; exact g4 v (List.mem_of_mem_take hv)
 ·obtain ⟨a, ha, hr⟩ := g5 (by omega)
  refine ⟨a, ha, fun j v hj => hr j v ?_⟩
  rw [← cellsP_take, List.getElem?_take] at hj
  split at hj
  ·exact hj
  ·cases hj
theorem pts_drop {M : Mem} {a : Addr} {c : Nat} {ps : List Pt} (h : Pts M (.slice (some a) ps.length c) ps) {k : Nat} (hk : k ≤ ps.length) {c' : Nat} (h1 : ps.length - k ≤ c') (h2 : c' ≤ c) : Pts M (.slice (some (a.add (k * 2))) (ps.length - k) c') (ps.drop k) := by
 obtain ⟨a', c0, e, g1, g2, g3, g4, g5⟩ := h
 cases e
 have hl : (ps.drop k).length = ps.length - k := List.length_drop
 refine ⟨some (a.add (k * 2)), c', by rw [hl], by rw [hl]; exact h1, by omega, ?_, fun v hv => ?_, fun hn => ⟨_, rfl, fun j v hj => ?_⟩⟩
 ·rw [← cellsP_drop', List.length_drop, g3, hl]; omega
 ·rw [← cellsP_drop'] at hv; exact g4 v (List.mem_of_mem_drop hv)
 ·obtain ⟨b, hb, hr⟩ := g5 (by omega)
  cases hb
  rw [← cellsP_drop', List.getElem?_drop] at hj
  rw [Addr.add_add]
  exact hr _ _ hj
theorem Clone_row (v : Value) (ps : List Pt) (M : Mem) (hv : Pts M v ps) (hn : 1 ≤ ps.length) (hn' : ps.length ≤ 100000) : FnRow Tryz.prog 83 [v] M 24 2 fun n xs _ => n = ps.length ∧ xs = cellsP ps := by
 obtain ⟨ad, c, rfl⟩ := hv.shape
 obtain ⟨_, hm, hrd⟩ := hv.cellsOf
 obtain ⟨ad', rfl, _⟩ := hrd M (Mem.le_refl _) 0 (by omega)
 refine FnRow.of_vc cxIOK Tryz.func83 rfl rfl rfl ?_
 repeat (first | refine VIf.tt ?_ | refine VIf.ff ?_)
 refine VSl.mk ps.length (cellsP ps) hv ?_
 repeat (first | refine VIf.tt ?_ | refine VIf.ff ?_)
 refine VFact.mk (by simp only; omega) ?_
 repeat (first | refine VIf.tt ?_ | refine VIf.ff ?_)
 refine VFact.mk ⟨?_, ?_⟩ trivial
 ·exact Nat.zero_add _
 ·exact List.nil_append _
set_option maxRecDepth 20000 in
set_option maxHeartbeats 2000000 in
theorem aroundN_fn : ∀ (N : Nat) (l : List Pt), l.length ≤ N → ∀ (v : Value) (M : Mem), Pts M v l → (∀ x ∈ l, placeB x = true) →
  V.Fn Tryz.prog 98 [v] M fun rs M' => ∃ u, rs = [u, .bool (decide (0 < l.length))] ∧ Pts M' u (arC l) := by
 intro N
 induction N with
 | zero =>
  intro l hN v M hv hP
  obtain ⟨ad, c, rfl⟩ := hv.shape
  have hl : l = [] := List.length_eq_zero_iff.1 (by omega)
  subst hl
  refine Fn.of_vc cxIOK Tryz.func98 rfl rfl rfl ?_
  repeat (first | refine VIf.tt ?_ | refine VIf.ff ?_)
  exact VFact.mk ⟨_, rfl, Pts.nil M⟩ trivial
 | succ N ih =>
  intro l hN v M hv hP
  obtain ⟨ad, c, rfl⟩ := hv.shape
  by_cases hl : l = []
  ·subst hl
   refine Fn.of_vc cxIOK Tryz.func98 rfl rfl rfl ?_
   repeat (first | refine VIf.tt ?_ | refine VIf.ff ?_)
   exact VFact.mk ⟨_, rfl, Pts.nil M⟩ trivial
  have hpos := ne_len hl
  refine Fn.of_vc cxIOK Tryz.func98 rfl rfl rfl ?_
  repeat (first | refine VIf.tt ?_ | refine VIf.ff ?_)
  refine VIf.mk (fun h => ?_) (fun _ => ?_)
  ·have := beq_iff_eq.1 h; omega
  rcases hullB_cases hl hP with ⟨h1, h2, h3, h4⟩ | ⟨h1, h3, h4⟩
  ·repeat (first | refine VIf.tt ?_ | refine VIf.ff ?_)
   refine VOwn.frz ?_
   repeat (first | refine VIf.tt ?_ | refine VIf.ff ?_)
   refine VFn.mk _ (Hull_is hv (mem_64 hP) h3) ?_
   rintro rs M1 hM1 ⟨u, rfl, hu⟩
   repeat (first | refine VIf.tt ?_ | refine VIf.ff ?_)
   refine VFact.mk ⟨u, ?_, by rw [h4]; exact hu⟩ trivial
   rw [decide_eq_true (by omega)]
  ·obtain ⟨ad, rfl⟩ := SlAt.some hv (by omega)
   have hcap : l.length ≤ c := by obtain ⟨_, _, e, h, _⟩ := hv; cases e; exact h
   repeat (first | refine VIf.tt ?_ | refine VIf.ff ?_)
   refine VOwn.frz ?_
   repeat (first | refine VIf.tt ?_ | refine VIf.ff ?_)
   refine VFn.mk _ (Hull_is hv (mem_64 hP) h3) ?_
   rintro rs M1 hM1 ⟨u, rfl, _⟩
   have hH : (l.length : Int).tdiv 2 = ((l.length / 2 : Nat) : Int) := by rw [Int.tdiv_eq_ediv_of_nonneg (by omega)]; omega
   repeat (first | refine VIf.tt ?_ | refine VIf.ff ?_)
   refine VDiv.mk (by decide) ?_
   repeat (first | refine VIf.tt ?_ | refine VIf.ff ?_)
   refine VArith.ok (by rw [hH]; omega) (by rw [hH]; have := hv.cellsOf.2.1; unfold maxLen at this; omega) ?_
   obtain ⟨H, hH2⟩ : ∃ H, l.length / 2 = H := ⟨_, rfl⟩
   rw [hH2] at hH
   have lt : (l.take H).length = H := by rw [List.length_take]; omega
   have ld : (l.drop H).length = l.length - H := List.length_drop
   have nA : l.take H ≠ [] := fun e => by rw [e] at lt; simp at lt; omega
   have nB : l.drop H ≠ [] := fun e => by rw [e] at ld; simp at ld; omega
   obtain ⟨vA, vB, vP, eP, nP, pP, lP⟩ := arC_parts nA nB (List.take_append_drop H l).symm hP
   repeat (first | refine VIf.tt ?_ | refine VIf.ff ?_)
   refine VBnd.mk H hH (by omega) ?_
   have pA : ∀ x ∈ l.take H, placeB x = true := fun x hx => hP x (List.mem_of_mem_take hx)
   have pB : ∀ x ∈ l.drop H, placeB x = true := fun x hx => hP x (List.mem_of_mem_drop hx)
   repeat (first | refine VIf.tt ?_ | refine VIf.ff ?_)
   refine VOwn.frz ?_
   repeat (first | refine VIf.tt ?_ | refine VIf.ff ?_)
   refine VFn.mk _ (ih (l.take H) (by omega) _ M1 (pts_take (hv.le hM1) (by omega) (by omega) (Nat.le_refl c)) pA) ?_
   rintro rs M2 hM2 ⟨a, rfl, ha⟩
   repeat (first | refine VIf.tt ?_ | refine VIf.ff ?_)
   refine VBnd.mk H hH (by omega) ?_
   repeat (first | refine VIf.tt ?_ | refine VIf.ff ?_)
   refine VOwn.frz ?_
   have D : Pts M2 (.slice (if c = H then some ad else (some ad).map fun x => x.add (H * 2)) (l.length - H) (c - H)) (l.drop H) := by
    rw [if_neg (by omega)]
    exact pts_drop (hv.le (hM1.trans hM2)) (by omega) (by omega) (by omega)
   repeat (first | refine VIf.tt ?_ | refine VIf.ff ?_)
   refine VFn.mk _ (ih (l.drop H) (by omega) _ M2 D pB) ?_
   rintro rs M3 hM3 ⟨b, rfl, hb⟩
   repeat (first | refine VIf.tt ?_ | refine VIf.ff ?_)
   refine VOwn.frz ?_
   repeat (first | refine VIf.tt ?_ | refine VIf.ff ?_)
   refine VFn.mk _ (Eight_is (ha.le hM3) (mem_64 (valid_mem vA)) vA rfl) ?_
   rintro rs M4 hM4 ⟨a8, rfl, ha8⟩
   repeat (first | refine VIf.tt ?_ | refine VIf.ff ?_)
   refine VOwn.frz ?_
   repeat (first | refine VIf.tt ?_ | refine VIf.ff ?_)
   refine VFn.mk _ (Eight_is (hb.le hM4) (mem_64 (valid_mem vB)) vB rfl) ?_
   rintro rs M5 hM5 ⟨b8', rfl, hb8⟩
   obtain ⟨ad2, c2, rfl⟩ := ha8.shape
   obtain ⟨bd2, bc2, rfl⟩ := hb8.shape
   have la := (eight_spec vA).2.2.1
   have lb := (eight_spec vB).2.2.1
   have na := (len_one (eight_spec vA).2.1).1
   repeat (first | refine VIf.tt ?_ | refine VIf.ff ?_)
   refine VOwn.own ?_
   refine VCall.ofRowM (Clone_row _ _ M5 (ha8.le hM5) na (by omega)) rfl ?_
   rintro m1 xs1 M6 hM6 ⟨rfl, rfl⟩
   repeat (first | refine VIf.tt ?_ | refine VIf.ff ?_)
   refine VSl.mk _ _ (hb8.le hM6) ?_
   repeat (first | refine VIf.tt ?_ | refine VIf.ff ?_)
   refine VFact.mk (by show ((eightP (arC (List.take H l))).length + (eightP (arC (List.drop H l))).length) * 16 ≤ _; omega) ?_
   repeat (first | refine VIf.tt ?_ | refine VIf.ff ?_)
   refine VOwn.frz ?_
   repeat (first | refine VIf.tt ?_ | refine VIf.ff ?_)
   refine VFz.mk fun xs Bx M7 hM7 hxs => ?_
   have hxs : Pts M7 xs (eightP (arC (List.take H l)) ++ eightP (arC (List.drop H l))) := by
    have e1 : cellsP (eightP (arC (List.take H l)) ++ eightP (arC (List.drop H l))) = cellsP (eightP (arC (List.take H l))) ++ cellsP (eightP (arC (List.drop H l))) := by simp [cellsP]
    unfold Pts
    rw [e1, List.length_append]
    exact hxs
   repeat (first | refine VIf.tt ?_ | refine VIf.ff ?_)
   refine VFn.mk _ (ih _ (by omega) xs M7 hxs pP) ?_
   rintro rs M8 hM8 ⟨p8, rfl, hp8⟩
   repeat (first | refine VIf.tt ?_ | refine VIf.ff ?_)
   refine VOwn.frz ?_
   repeat (first | refine VIf.tt ?_ | refine VIf.ff ?_)
   refine VFn.mk _ (Eight_is hp8 (mem_64 (valid_mem vP)) vP eP) ?_
   rintro rs M9 hM9 ⟨o, rfl, ho⟩
   repeat (first | refine VIf.tt ?_ | refine VIf.ff ?_)
   refine VFact.mk ⟨o, ?_, by rw [h4]; exact ho⟩ trivial
   rw [decide_eq_true (by omega)]
theorem aroundC_fn (v : Value) (l : List Pt) (M : Mem) (hv : Pts M v l) (hP : ∀ x ∈ l, placeB x = true) : V.Fn Tryz.prog 98 [v] M fun rs M' => ∃ u, rs = [u, .bool (decide (0 < l.length))] ∧ Pts M' u (arC l) := aroundN_fn l.length l (Nat.le_refl _) v M hv hP
end Go.Proofs.YtdfhnemhkpplbaaGreatDoor
namespace Go.Proofs.YtdfhnemhkpplbaaGreatDoor
open Go Go.V Go.RowKit
def keepAB (A B C : Int) (a b : Pt) : List Pt := (if ovr A B C a ≤ 0 then [a] else []) ++ (if crossesB (ovr A B C a) (ovr A B C b) = true then frameP a b (ovr A B C a) (ovr A B C b) else [])
set_option maxRecDepth 20000 in
set_option maxHeartbeats 2000000 in
theorem Keep_call {nt : Nat} {A B C : Int} {ks : List Pt} {a b : Pt} {M : Mem} {G : Gh} {K : SV → St → Prop} (hlen : ks.length ≤ 100000) (hH : halfB A B C = true) (ha : placeB a = true) (hb : placeB b = true)
  (hK : K (.v (.tuple #[])) ⟨[(8, .box 1 0), (9, .box 2 0)], [(1, some (.box 27 [.row 3])), (3, some (.row 24 2 (ks ++ keepAB A B C a b).length (cellsP (ks ++ keepAB A B C a b)))), (0, some (.box 108 [.v (.int .i64 A), .v (.int .i64 B), .v (.int .i64 C)])), (2, some (.box 111 [.clo 93 [] [.box 0 0, .box 1 0]]))], 4, M, nt, G⟩) :
  VCall Tryz.prog 93 [.v (ptv a), .v (ptv b), .box 0 0, .box 1 0] ⟨[(8, .box 1 0), (9, .box 2 0)], [(1, some (.box 27 [.row 3])), (3, some (.row 24 2 ks.length (cellsP ks))), (0, some (.box 108 [.v (.int .i64 A), .v (.int .i64 B), .v (.int .i64 C)])), (2, some (.box 111 [.clo 93 [] [.box 0 0, .box 1 0]]))], 4, M, nt, G⟩ K := by
 refine VCall.post ?_
 refine VCall.inline cxOK Tryz.func93 rfl rfl rfl [(8, .box 1 0), (9, .box 2 0)] [] (by repeat' constructor) (by repeat' constructor) ?_
 intro val f0
 repeat (first | refine VIf.tt ?_ | refine VIf.ff ?_)
 refine VDraw.go (by kernel_rfl) ?_
 have bs := ovr_bd hH ha
 have bt := ovr_bd hH hb
 repeat (first | refine VIf.tt ?_ | refine VIf.ff ?_)
 refine VFn.p (over_fn A B C a M hH ha) ?_
 repeat (first | refine VIf.tt ?_ | refine VIf.ff ?_)
 refine VFn.p (over_fn A B C b M hH hb) ?_
 repeat (first | refine VIf.tt ?_ | refine VIf.ff ?_)
 refine VIf.mk (fun h1 => ?_) (fun h1 => ?_)
 ·have h1 := of_decide_eq_true h1
  repeat (first | refine VIf.tt ?_ | refine VIf.ff ?_)
  refine VFact.mk (by show (ks.length + 1) * 16 ≤ _; omega) ?_
  repeat (first | refine VIf.tt ?_ | refine VIf.ff ?_)
  refine VFn.p (crossesC_fn _ _ M) ?_
  repeat (first | refine VIf.tt ?_ | refine VIf.ff ?_)
  refine VIf.mk (fun h2 => ?_) (fun h2 => ?_)
  ·repeat (first | refine VIf.tt ?_ | refine VIf.ff ?_)
   refine VDraw.go (by kernel_rfl) ?_
   repeat (first | refine VIf.tt ?_ | refine VIf.ff ?_)
   refine VFn.mk _ (frameC_fn a b _ _ M ha hb bs bt h2) ?_
   rintro rs M' hM ⟨u, rfl, hu⟩
   obtain ⟨ud, uc, rfl⟩ := hu.shape
   repeat (first | refine VIf.tt ?_ | refine VIf.ff ?_)
   refine VSl.mk _ _ hu ?_
   have hk : keepAB A B C a b = [a] ++ frameP a b (ovr A B C a) (ovr A B C b) := by unfold keepAB; rw [if_pos h1, if_pos h2]
   have el : (ks ++ keepAB A B C a b).length = (ks.length + 1) + (frameP a b (ovr A B C a) (ovr A B C b)).length := by rw [hk]; simp; try omega
   have ec : cellsP (ks ++ keepAB A B C a b) = (cellsP ks ++ ([Value.int .i64 a.1, .int .i64 a.2] ++ [])) ++ cellsP (frameP a b (ovr A B C a) (ovr A B C b)) := by rw [hk]; simp [cellsP]
   repeat (first | refine VIf.tt ?_ | refine VIf.ff ?_)
   refine VFact.mk (by show ((ks.length + 1) + 4) * 16 ≤ _; omega) ?_
   repeat (first | refine VIf.tt ?_ | refine VIf.ff ?_)
   repeat (first | refine VIf.tt ?_ | refine VIf.ff ?_)
   refine VFact.mk hM ?_
   repeat (first | refine VIf.tt ?_ | refine VIf.ff ?_)
   refine VFact.mk (fun _ => rfl) ?_
   repeat refine VFact.mk rfl ?_
   refine ⟨.v (.tuple #[]), _, ?_, hK⟩
   refine ⟨⟨fun i => if i = 3 then 10 else i, rfl, rfl, ?_, ?_, ?_⟩, rfl, rfl, rfl⟩
   ·repeat' constructor
   ·repeat' (first | exact el | exact ec.symm | exact el.symm | exact ec | constructor)
   ·exact injOK_b rfl
  ·have hk : keepAB A B C a b = [a] := by unfold keepAB; rw [if_pos h1, if_neg (by rw [h2]; decide)]; simp
   have el : (ks ++ keepAB A B C a b).length = (ks.length + 1) := by rw [hk]; simp
   have ec : cellsP (ks ++ keepAB A B C a b) = (cellsP ks ++ ([Value.int .i64 a.1, .int .i64 a.2] ++ [])) := by rw [hk]; simp [cellsP]
   repeat (first | refine VIf.tt ?_ | refine VIf.ff ?_)
   repeat (first | refine VIf.tt ?_ | refine VIf.ff ?_)
   refine VFact.mk (fun _ _ h => h) ?_
   repeat (first | refine VIf.tt ?_ | refine VIf.ff ?_)
   refine VFact.mk (fun _ => rfl) ?_
   repeat refine VFact.mk rfl ?_
   refine ⟨.v (.tuple #[]), _, ?_, hK⟩
   refine ⟨⟨fun i => if i = 3 then 9 else i, rfl, rfl, ?_, ?_, ?_⟩, rfl, rfl, rfl⟩
   ·repeat' constructor
   ·repeat' (first | exact el | exact ec.symm | exact el.symm | exact ec | constructor)
   ·exact injOK_b rfl
 ·have h1 := of_decide_eq_false h1
  repeat (first | refine VIf.tt ?_ | refine VIf.ff ?_)
  refine VFn.p (crossesC_fn _ _ M) ?_
  repeat (first | refine VIf.tt ?_ | refine VIf.ff ?_)
  refine VIf.mk (fun h2 => ?_) (fun h2 => ?_)
  ·repeat (first | refine VIf.tt ?_ | refine VIf.ff ?_)
   refine VDraw.go (by kernel_rfl) ?_
   repeat (first | refine VIf.tt ?_ | refine VIf.ff ?_)
   refine VFn.mk _ (frameC_fn a b _ _ M ha hb bs bt h2) ?_
   rintro rs M' hM ⟨u, rfl, hu⟩
   obtain ⟨ud, uc, rfl⟩ := hu.shape
   repeat (first | refine VIf.tt ?_ | refine VIf.ff ?_)
   refine VSl.mk _ _ hu ?_
   have hk : keepAB A B C a b = [] ++ frameP a b (ovr A B C a) (ovr A B C b) := by unfold keepAB; rw [if_neg h1, if_pos h2]
   have el : (ks ++ keepAB A B C a b).length = ks.length + (frameP a b (ovr A B C a) (ovr A B C b)).length := by rw [hk]; simp; try omega
   have ec : cellsP (ks ++ keepAB A B C a b) = cellsP ks ++ cellsP (frameP a b (ovr A B C a) (ovr A B C b)) := by rw [hk]; simp [cellsP]
   repeat (first | refine VIf.tt ?_ | refine VIf.ff ?_)
   refine VFact.mk (by show (ks.length + 4) * 16 ≤ _; omega) ?_
   repeat (first | refine VIf.tt ?_ | refine VIf.ff ?_)
   repeat (first | refine VIf.tt ?_ | refine VIf.ff ?_)
   refine VFact.mk hM ?_
   repeat (first | refine VIf.tt ?_ | refine VIf.ff ?_)
   refine VFact.mk (fun _ => rfl) ?_
   repeat refine VFact.mk rfl ?_
   refine ⟨.v (.tuple #[]), _, ?_, hK⟩
   refine ⟨⟨fun i => if i = 3 then 8 else i, rfl, rfl, ?_, ?_, ?_⟩, rfl, rfl, rfl⟩
   ·repeat' constructor
   ·repeat' (first | exact el | exact ec.symm | exact el.symm | exact ec | constructor)
   ·exact injOK_b rfl
  ·have hk : keepAB A B C a b = [] := by unfold keepAB; rw [if_neg h1, if_neg (by rw [h2]; decide)]; simp
   have el : (ks ++ keepAB A B C a b).length = ks.length := by rw [hk]; simp
   have ec : cellsP (ks ++ keepAB A B C a b) = cellsP ks := by rw [hk]; simp [cellsP]
   repeat (first | refine VIf.tt ?_ | refine VIf.ff ?_)
   repeat (first | refine VIf.tt ?_ | refine VIf.ff ?_)
   refine VFact.mk (fun _ _ h => h) ?_
   repeat (first | refine VIf.tt ?_ | refine VIf.ff ?_)
   refine VFact.mk (fun _ => rfl) ?_
   repeat refine VFact.mk rfl ?_
   refine ⟨.v (.tuple #[]), _, ?_, hK⟩
   refine ⟨⟨fun i => if i = 3 then 3 else i, rfl, rfl, ?_, ?_, ?_⟩, rfl, rfl, rfl⟩
   ·repeat' constructor
   ·repeat' (first | exact el | exact ec.symm | exact el.symm | exact ec | constructor)
   ·exact injOK_b rfl
end Go.Proofs.YtdfhnemhkpplbaaGreatDoor
namespace Go.Proofs.YtdfhnemhkpplbaaGreatDoor
open Go Go.V Go.RowKit
theorem filter_step (f : Pt → Bool) (ps : List Pt) {i : Nat} (h : i < ps.length) : (ps.take (i + 1)).filter f = (ps.take i).filter f ++ (if f (gp ps i) = true then [gp ps i] else []) := by
 have : ps[i]? = some (gp ps i) := by simp [gp, h]
 rw [List.take_add_one, List.filter_append, this]
 by_cases hf : f (gp ps i) = true
 ·rw [if_pos hf]; simp [hf]
 ·rw [if_neg hf]; simp [hf]
theorem Has_any {v : Value} {qs : List Pt} {x : Pt} {M : Mem} (hv : Pts M v qs) (hV : validB qs = true) (hx : placeB x = true) : V.Fn Tryz.prog 18 [v, ptv x] M fun rs _ => rs = [.bool (hasB qs x), .int .i64 0] :=
 hasB_is hv (mem_64 (valid_mem hV)) (place_64 hx) (hasE_is hV hx rfl)
set_option maxRecDepth 20000 in
set_option maxHeartbeats 2000000 in
theorem cornersC_fn (v w : Value) (ps qs : List Pt) (M : Mem) (hv : Pts M v ps) (hw : Pts M w qs) (hV : validB qs = true) (hP : ∀ x ∈ ps, placeB x = true) (hl : ps.length ≤ 100000) :
  V.Fn Tryz.prog 125 [v, w] M fun rs M' => ∃ u, rs = [u] ∧ Pts M' u (cornA ps qs) := by
 obtain ⟨ad, c, rfl⟩ := hv.shape
 obtain ⟨_, _, hrd⟩ := hv.cellsOf
 refine Fn.of_vc cxIOK Tryz.func125 rfl rfl rfl ?_
 repeat (first | refine VIf.tt ?_ | refine VIf.ff ?_)
 refine VCode.loop cxIOK (Nat × Mem)
  (fun s => ⟨[(1, .v w), (5, .row 0), (10, .v (.slice ad ps.length c)), (11, .v (.int .i64 ps.length)), (12, .v (.int .i64 s.1))], [(0, some (.row 24 2 ((ps.take s.1).filter (hasB qs)).length (cellsP ((ps.take s.1).filter (hasB qs)))))], 1, s.2, 29, ⟨fun _ => none, none, fun _ => none⟩⟩)
  (fun s => s.1 ≤ ps.length ∧ M.le s.2) (fun s => ps.length - s.1) (0, M) ⟨Nat.zero_le _, Mem.le_refl _⟩ ?_ ?_
 ·exact Wk.nil 5 24 2 rfl (Wk.mk' id (by repeat' constructor) (by repeat' constructor) (injOK_id _) rfl rfl rfl)
 rintro ⟨i, M1⟩ ⟨hi, hM1⟩ m
 simp only at hi hM1
 repeat (first | refine VIf.tt ?_ | refine VIf.ff ?_)
 refine VIf.mk (fun hlt => ?_) (fun hge => ?_)
 rotate_left
 ·have : i = ps.length := by have := of_decide_eq_false hge; simp only at this; omega
  subst this
  repeat (first | refine VIf.tt ?_ | refine VIf.ff ?_)
  refine VFz.mk fun u B M2 hM2 hu => ?_
  repeat (first | refine VIf.tt ?_ | refine VIf.ff ?_)
  refine VFact.mk ⟨u, rfl, ?_⟩ trivial
  have hu : Pts M2 u ((ps.take ps.length).filter (hasB qs)) := hu
  rw [List.take_length] at hu
  exact hu
 have hlt : i < ps.length := by have := of_decide_eq_true hlt; simp only at this; omega
 obtain ⟨ad', rfl, hp⟩ := hrd M1 hM1 i hlt
 have hst := filter_step (hasB qs) ps hlt
 have hfl : ((ps.take i).filter (hasB qs)).length ≤ ps.length := by
  have := List.length_filter_le (hasB qs) (ps.take i)
  rw [List.length_take] at this; omega
 repeat (first | refine VIf.tt ?_ | refine VIf.ff ?_)
 refine VIdx.mk ad' i rfl rfl hlt ?_
 repeat (first | refine VIf.tt ?_ | refine VIf.ff ?_)
 refine VReads.mk [.int .i64 (gp ps i).1, .int .i64 (gp ps i).2] rfl hp ?_
 repeat (first | refine VIf.tt ?_ | refine VIf.ff ?_)
 refine VOwn.frz ?_
 repeat (first | refine VIf.tt ?_ | refine VIf.ff ?_)
 refine VFn.mk _ (Has_any (x := gp ps i) (hw.le hM1) hV (hP _ (gp_mem hlt))) ?_
 rintro rs M2 hM2 rfl
 repeat (first | refine VIf.tt ?_ | refine VIf.ff ?_)
 refine VIf.mk (fun h => ?_) (fun h => ?_)
 ·rw [if_pos h] at hst
  repeat (first | refine VIf.tt ?_ | refine VIf.ff ?_)
  refine VFact.mk (by show (((ps.take i).filter (hasB qs)).length + 1) * 16 ≤ _; omega) ?_
  repeat (first | refine VIf.tt ?_ | refine VIf.ff ?_)
  refine VArith.ok (by first | omega | (simp only; omega)) (by first | omega | (simp only; omega)) ?_
  refine ⟨(i + 1, M2), ⟨hlt, hM1.trans hM2⟩, by simp only; omega, Wk.mk' (fun k => if k = 0 then 3 else k) (by repeat' constructor) ⟨⟨rfl, ⟨rfl, rfl, ?_, ?_⟩⟩, trivial⟩ (by simp [injOK]) rfl rfl rfl⟩
  ·show ((ps.take (i + 1)).filter (hasB qs)).length = _
   rw [hst]; simp
  ·show cellsP ((ps.take (i + 1)).filter (hasB qs)) = _
   rw [hst]; simp [cellsP]
 ·rw [if_neg (by rw [h]; decide), List.append_nil] at hst
  repeat (first | refine VIf.tt ?_ | refine VIf.ff ?_)
  refine VArith.ok (by first | omega | (simp only; omega)) (by first | omega | (simp only; omega)) ?_
  refine ⟨(i + 1, M2), ⟨hlt, hM1.trans hM2⟩, by simp only; omega, Wk.mk' id (by repeat' constructor) ⟨⟨rfl, ⟨rfl, rfl, ?_, ?_⟩⟩, trivial⟩ (injOK_id _) rfl rfl rfl⟩
  ·exact congrArg List.length hst
  ·exact congrArg cellsP hst
end Go.Proofs.YtdfhnemhkpplbaaGreatDoor
namespace Go.Proofs.YtdfhnemhkpplbaaGreatDoor
open Go Go.V Go.RowKit
theorem crossP_bd {a b c : Pt} (ha : placeB a = true) (hb : placeB b = true) (hc : placeB c = true) : -2000000000000 ≤ crossP a b c ∧ crossP a b c ≤ 2000000000000 := by
 have ha := place_C ha
 have hb := place_C hb
 have hc := place_C hc
 unfold isC at *
 have p1 := bd12 (a := b.1 - a.1) (b := c.2 - a.2) (by omega) (by omega) (by omega) (by omega)
 have p2 := bd12 (a := b.2 - a.2) (b := c.1 - a.1) (by omega) (by omega) (by omega) (by omega)
 unfold crossP cross
 omega
theorem turnP_fn (a b c : Pt) (M : Mem) (ha : placeB a = true) (hb : placeB b = true) (hc : placeB c = true) : FnP Tryz.prog 144 [ptv a, ptv b, ptv c] M [.int .i64 (crossP a b c)] :=
 turnC_fn a.1 a.2 b.1 b.2 c.1 c.2 M (place_C ha).1 (place_C ha).2 (place_C hb).1 (place_C hb).2 (place_C hc).1 (place_C hc).2
set_option maxRecDepth 20000 in
set_option maxHeartbeats 4000000 in
theorem crossings_fn (v w : Value) (ps qs : List Pt) (M : Mem) (hv : Pts M v ps) (hw : Pts M w qs) (hp : validB ps = true) (hq : validB qs = true) :
  V.Fn Tryz.prog 126 [v, w] M fun rs M' => ∃ u, rs = [u] ∧ Pts M' u (crosA ps qs) := by
 obtain ⟨ad, c, rfl⟩ := hv.shape
 obtain ⟨bd, bc, rfl⟩ := hw.shape
 have hqp := valid_mem hq
 have hpp := valid_mem hp
 refine Fn.of_vc cxIOK Tryz.func126 rfl rfl rfl ?_
 repeat (first | refine VIf.tt ?_ | refine VIf.ff ?_)
 refine VOwn.frz ?_
 repeat (first | refine VIf.tt ?_ | refine VIf.ff ?_)
 refine VFn.mk _ (sidesC_fn ad ps.length c M) ?_
 rintro rs M1 hM1 ⟨B1, rfl, hB1⟩
 repeat (first | refine VIf.tt ?_ | refine VIf.ff ?_)
 refine VCode.rangeB cxIOK rfl (sidesC_iter M1 B1 _ ps hB1 (hv.le hM1)) (fun x hx => ?_) [(3, .box 0 0), (5, .box 1 0)] rfl (by kernel_rfl) (by kernel_rfl) Mem
  (fun k M' => ⟨[(3, .box 0 0), (5, .box 1 0)], [(1, some (.box 27 [.row 2])), (2, some (.row 24 2 (crosX ps qs k).length (cellsP (crosX ps qs k)))), (0, some (.box 27 [.v (.slice bd qs.length bc)]))], 3, M', 50, ⟨fun _ => none, none, fun _ => none⟩⟩)
  (fun k M' => M1.le M' ∧ k ≤ ps.length) M1 ⟨Mem.le_refl _, Nat.zero_le _⟩ ?_ (fun k s => ⟨rfl, rfl⟩) ?_ ?_
 ·simp only [sidesL, List.mem_map] at hx
  obtain ⟨k, _, rfl⟩ := hx
  rfl
 ·exact Wk.nilBox 1 27 [] [] 24 2 rfl (Wk.mk' id (by repeat' constructor) (by repeat' constructor) (injOK_id _) rfl rfl rfl)
 ·rintro k M2 args ⟨hM2, _⟩ hxs m f
  obtain ⟨hk, rfl⟩ := sidesL_get hxs
  intro m'
  have pa := hpp _ (gp_mem hk)
  have pb := hpp _ (nx_mem hk)
  repeat (first | refine VIf.tt ?_ | refine VIf.ff ?_)
  refine VOwn.frz ?_
  repeat (first | refine VIf.tt ?_ | refine VIf.ff ?_)
  refine VFn.mk _ (sidesC_fn bd qs.length bc M2) ?_
  rintro rs M3 hM3 ⟨B2, rfl, hB2⟩
  repeat (first | refine VIf.tt ?_ | refine VIf.ff ?_)
  refine VCode.rangeB cxIOK rfl (sidesC_iter M3 B2 _ qs hB2 (hw.le (hM1.trans (hM2.trans hM3)))) (fun x hx => ?_) [(3, .box 0 0), (5, .box 1 0), (6, .box 3 0), (7, .box 4 0)] rfl (by kernel_rfl) (by kernel_rfl) Mem
   (fun j M' => ⟨[(3, .box 0 0), (5, .box 1 0), (6, .box 3 0), (7, .box 4 0)], [(1, some (.box 27 [.row 2])), (2, some (.row 24 2 (crosX ps qs k ++ rowX ps qs k j).length (cellsP (crosX ps qs k ++ rowX ps qs k j)))), (0, some (.box 27 [.v (.slice bd qs.length bc)])), (3, some (.box 24 [.v (.int .i64 (gp ps k).1), .v (.int .i64 (gp ps k).2)])), (4, some (.box 24 [.v (.int .i64 (nx ps k).1), .v (.int .i64 (nx ps k).2)]))], 5, M', 50, ⟨fun _ => none, none, fun _ => none⟩⟩)
   (fun j M' => M3.le M' ∧ j ≤ qs.length) M3 ⟨Mem.le_refl _, Nat.zero_le _⟩ ?_ (fun k s => ⟨rfl, rfl⟩) ?_ ?_
  ·simp only [sidesL, List.mem_map] at hx
   obtain ⟨k, _, rfl⟩ := hx
   rfl
  ·have e : crosX ps qs k ++ rowX ps qs k 0 = crosX ps qs k := by unfold rowX; simp
   simp only [e]
   exact (Wk.mk' id (by repeat' constructor) (by repeat' constructor) (injOK_id _) rfl rfl rfl)
  ·rintro j M4 args ⟨hM4, _⟩ hxs m2 f2
   obtain ⟨hj, rfl⟩ := sidesL_get hxs
   intro m2'
   have qa := hqp _ (gp_mem hj)
   have qb := hqp _ (nx_mem hj)
   repeat (first | refine VIf.tt ?_ | refine VIf.ff ?_)
   refine VDraw.go (by kernel_rfl) ?_
   repeat (first | refine VIf.tt ?_ | refine VIf.ff ?_)
   refine VFn.p (turnP_fn (gp ps k) (nx ps k) (gp qs j) M4 pa pb qa) ?_
   repeat (first | refine VIf.tt ?_ | refine VIf.ff ?_)
   refine VOwn.frz ?_
   repeat (first | refine VIf.tt ?_ | refine VIf.ff ?_)
   refine VFn.p (turnP_fn (gp ps k) (nx ps k) (nx qs j) M4 pa pb qb) ?_
   repeat (first | refine VIf.tt ?_ | refine VIf.ff ?_)
   refine VDraw.go (by kernel_rfl) ?_
   repeat (first | refine VIf.tt ?_ | refine VIf.ff ?_)
   refine VOwn.frz ?_
   repeat (first | refine VIf.tt ?_ | refine VIf.ff ?_)
   refine VFn.p (crossesC_fn _ _ M4) ?_
   have hfalse : crossIJ ps qs k j = false → crosX ps qs k ++ rowX ps qs k j = crosX ps qs k ++ rowX ps qs k (j + 1) := fun h => by
    rw [rowX_step]; unfold cellX; rw [if_neg (by rw [h]; decide), List.append_nil]
   have lenB : (crosX ps qs k ++ rowX ps qs k j).length ≤ 100000 := by
    have h1 := crosX_len ps qs (len_one hq).2 k
    have h2 := rowX_len ps qs k j
    have := (len_one hp).2
    have := (len_one hq).2
    rw [List.length_append]; omega
   repeat (first | refine VIf.tt ?_ | refine VIf.ff ?_)
   refine VIf.mk (fun c1 => ?_) (fun c1 => ?_)
   ·repeat (first | refine VIf.tt ?_ | refine VIf.ff ?_)
    try refine VOwn.frz ?_
    repeat (first | refine VIf.tt ?_ | refine VIf.ff ?_)
    refine VFn.p (turnP_fn (gp qs j) (nx qs j) (gp ps k) M4 qa qb pa) ?_
    repeat (first | refine VIf.tt ?_ | refine VIf.ff ?_)
    try refine VOwn.frz ?_
    repeat (first | refine VIf.tt ?_ | refine VIf.ff ?_)
    refine VFn.p (turnP_fn (gp qs j) (nx qs j) (nx ps k) M4 qa qb pb) ?_
    repeat (first | refine VIf.tt ?_ | refine VIf.ff ?_)
    try refine VOwn.frz ?_
    repeat (first | refine VIf.tt ?_ | refine VIf.ff ?_)
    refine VFn.p (crossesC_fn _ _ M4) ?_
    repeat (first | refine VIf.tt ?_ | refine VIf.ff ?_)
    refine VIf.mk (fun c2 => ?_) (fun c2 => ?_)
    ·have hc : crossIJ ps qs k j = true := by unfold crossIJ; rw [c1, c2]; rfl
     have er : crosX ps qs k ++ rowX ps qs k (j + 1) = (crosX ps qs k ++ rowX ps qs k j) ++ frameP (gp qs j) (nx qs j) (crossP (gp ps k) (nx ps k) (gp qs j)) (crossP (gp ps k) (nx ps k) (nx qs j)) := by
      rw [rowX_step]; unfold cellX; rw [if_pos hc, List.append_assoc]
     repeat (first | refine VIf.tt ?_ | refine VIf.ff ?_)
     refine VDraw.go (by kernel_rfl) ?_
     repeat (first | refine VIf.tt ?_ | refine VIf.ff ?_)
     refine VFn.mk _ (frameC_fn (gp qs j) (nx qs j) _ _ M4 qa qb (crossP_bd pa pb qa) (crossP_bd pa pb qb) c1) ?_
     rintro rs M5 hM5 ⟨u, rfl, hu⟩
     obtain ⟨ud, uc, rfl⟩ := hu.shape
     repeat (first | refine VIf.tt ?_ | refine VIf.ff ?_)
     refine VSl.mk _ _ hu ?_
     repeat (first | refine VIf.tt ?_ | refine VIf.ff ?_)
     refine VFact.mk (by show ((crosX ps qs k ++ rowX ps qs k j).length + 4) * 16 ≤ _; omega) ?_
     repeat (first | refine VIf.tt ?_ | refine VIf.ff ?_)
     refine ⟨M5, ⟨hM4.trans hM5, hj⟩, Wk.mk' (fun i => if i = 2 then 7 else i) (by repeat' constructor) ⟨⟨rfl, by repeat' constructor⟩, ⟨rfl, ⟨rfl, rfl, ?_, ?_⟩⟩, ⟨rfl, by repeat' constructor⟩, ⟨rfl, by repeat' constructor⟩, ⟨rfl, by repeat' constructor⟩, trivial⟩ (by simp [injOK]) rfl rfl rfl⟩
     ·rw [er, List.length_append]
     ·rw [er]; simp [cellsP]
    ·have hc := hfalse (by unfold crossIJ; rw [c2, Bool.and_false])
     repeat (first | refine VIf.tt ?_ | refine VIf.ff ?_)
     refine ⟨M4, ⟨hM4, hj⟩, Wk.mk' id (by repeat' constructor) ⟨⟨rfl, by repeat' constructor⟩, ⟨rfl, ⟨rfl, rfl, ?_, ?_⟩⟩, ⟨rfl, by repeat' constructor⟩, ⟨rfl, by repeat' constructor⟩, ⟨rfl, by repeat' constructor⟩, trivial⟩ (injOK_id _) rfl rfl rfl⟩
     ·exact congrArg List.length hc.symm
     ·exact congrArg cellsP hc.symm
   ·have hc := hfalse (by unfold crossIJ; rw [c1, Bool.false_and])
    repeat (first | refine VIf.tt ?_ | refine VIf.ff ?_)
    refine ⟨M4, ⟨hM4, hj⟩, Wk.mk' id (by repeat' constructor) ⟨⟨rfl, by repeat' constructor⟩, ⟨rfl, ⟨rfl, rfl, ?_, ?_⟩⟩, ⟨rfl, by repeat' constructor⟩, ⟨rfl, by repeat' constructor⟩, ⟨rfl, by repeat' constructor⟩, trivial⟩ (injOK_id _) rfl rfl rfl⟩
    ·exact congrArg List.length hc.symm
    ·exact congrArg cellsP hc.symm
  ·rintro M4 m2 ⟨hM4, _⟩
   have er : crosX ps qs k ++ rowX ps qs k (sidesL qs).length = crosX ps qs (k + 1) := by rw [crosX_step, show (sidesL qs).length = qs.length by simp [sidesL]]
   refine ⟨M4, ⟨hM2.trans (hM3.trans hM4), hk⟩, Wk.mk' id (by repeat' constructor) (by repeat' (first | exact congrArg List.length er.symm | exact congrArg cellsP er.symm | exact congrArg List.length er | exact congrArg cellsP er | constructor)) (injOK_id _) rfl rfl rfl⟩
 ·rintro M2 m ⟨hM2, _⟩
  have er : crosX ps qs (sidesL ps).length = crosA ps qs := by unfold crosA; rw [show (sidesL ps).length = ps.length by simp [sidesL]]
  repeat (first | refine VIf.tt ?_ | refine VIf.ff ?_)
  refine VFz.mk fun u B M3 hM3 hu => ?_
  have hu : Pts M3 u (crosX ps qs (sidesL ps).length) := hu
  rw [er] at hu
  repeat (first | refine VIf.tt ?_ | refine VIf.ff ?_)
  exact VFact.mk ⟨u, rfl, hu⟩ trivial
end Go.Proofs.YtdfhnemhkpplbaaGreatDoor
namespace Go.Proofs.YtdfhnemhkpplbaaGreatDoor
open Go Go.V Go.RowKit
set_option maxRecDepth 20000 in
set_option maxHeartbeats 4000000 in
theorem Cut_fn (v : Value) (ps : List Pt) (A B C : Int) (M : Mem) (hv : Pts M v ps) (h64 : i64P ps) :
  V.Fn Tryz.prog 63 [v, .agg #[.int .i64 A, .int .i64 B, .int .i64 C]] M fun rs M' => if (validB ps && halfB A B C) = true then ∃ u, rs = [u, .bool (decide (0 < (cutA ps A B C).length)), .int .i64 0] ∧ Pts M' u (arC (cutA ps A B C)) else rs = [.slice none 0 0, .bool false, .int .i64 1] := by
 obtain ⟨ad, c, rfl⟩ := hv.shape
 refine Fn.of_vc cxIOK Tryz.func63 rfl rfl rfl ?_
 repeat (first | refine VIf.tt ?_ | refine VIf.ff ?_)
 refine VOwn.frz ?_
 repeat (first | refine VIf.tt ?_ | refine VIf.ff ?_)
 refine VFn.mk _ (Valid_fn _ ps M hv h64) ?_
 rintro rs M1 hM1 rfl
 repeat (first | refine VIf.tt ?_ | refine VIf.ff ?_)
 refine VIf.mk (fun h => ?_) (fun h => ?_)
 ·repeat (first | refine VIf.tt ?_ | refine VIf.ff ?_)
  refine VFact.mk ?_ trivial
  rw [(Bool.not_eq_true' _).mp h]; rfl
 have hV := (Bool.not_eq_false' _).mp h
 repeat (first | refine VIf.tt ?_ | refine VIf.ff ?_)
 refine VOwn.frz ?_
 repeat (first | refine VIf.tt ?_ | refine VIf.ff ?_)
 refine VFn.p (halfValid_fn A B C M1) ?_
 repeat (first | refine VIf.tt ?_ | refine VIf.ff ?_)
 refine VIf.mk (fun h => ?_) (fun h => ?_)
 ·repeat (first | refine VIf.tt ?_ | refine VIf.ff ?_)
  refine VFact.mk ?_ trivial
  rw [(Bool.not_eq_true' _).mp h, Bool.and_false]; rfl
 have hH := (Bool.not_eq_false' _).mp h
 rw [hV, hH]
 have hpp := valid_mem hV
 repeat (first | refine VIf.tt ?_ | refine VIf.ff ?_)
 refine VOwn.frz ?_
 repeat (first | refine VIf.tt ?_ | refine VIf.ff ?_)
 refine VFn.mk _ (sidesC_fn ad ps.length c M1) ?_
 rintro rs M2 hM2 ⟨B1, rfl, hB1⟩
 repeat (first | refine VIf.tt ?_ | refine VIf.ff ?_)
 refine VCode.rangeB cxIOK rfl (sidesC_iter M2 B1 _ ps hB1 (hv.le (hM1.trans hM2))) (fun x hx => ?_) [(8, .box 1 0), (9, .box 2 0)] rfl (by kernel_rfl) (by kernel_rfl) Unit
  (fun k _ => ⟨[(8, .box 1 0), (9, .box 2 0)], [(1, some (.box 27 [.row 3])), (3, some (.row 24 2 (cutL ps A B C k).length (cellsP (cutL ps A B C k)))), (0, some (.box 108 [.v (.int .i64 A), .v (.int .i64 B), .v (.int .i64 C)])), (2, some (.box 111 [.clo 93 [] [.box 0 0, .box 1 0]]))], 4, M2, 40, ⟨fun _ => none, none, fun _ => none⟩⟩)
  (fun k _ => k ≤ ps.length) () (Nat.zero_le _) ?_ (fun k s => ⟨rfl, rfl⟩) ?_ ?_
 ·simp only [sidesL, List.mem_map] at hx
  obtain ⟨k, _, rfl⟩ := hx
  rfl
 ·refine Wk.nilBox 2 27 [] [] 24 2 rfl ?_
  refine Wk.mk' (fun i => i + 1) (by repeat' constructor) (by repeat' constructor) (by simp [injOK]) rfl rfl rfl
 ·rintro k _ args hk hxs m f
  obtain ⟨hk, rfl⟩ := sidesL_get hxs
  intro m'
  have pa := hpp _ (gp_mem hk)
  have pb : placeB (nx ps k) = true := hpp _ (nx_mem hk)
  have hlen := cutL_len ps A B C k
  have hl64 := (len_one hV).2
  repeat (first | refine VIf.tt ?_ | refine VIf.ff ?_)
  refine VOwn.own ?_
  refine VCall.wk (st1 := ⟨[(8, .box 1 0), (9, .box 2 0)], [(1, some (.box 27 [.row 3])), (3, some (.row 24 2 (cutL ps A B C k).length (cellsP (cutL ps A B C k)))), (0, some (.box 108 [.v (.int .i64 A), .v (.int .i64 B), .v (.int .i64 C)])), (2, some (.box 111 [.clo 93 [] [.box 0 0, .box 1 0]]))], 4, M2, 40, ⟨m', none, f⟩⟩) (args1 := [.v (ptv (gp ps k)), .v (ptv (nx ps k)), .box 0 0, .box 1 0]) id rfl rfl (by repeat' constructor) (by repeat' constructor) (injOK_id _) rfl rfl rfl ?_
  refine Keep_call (by omega) hH pa pb ?_
  have e : cutL ps A B C k ++ keepAB A B C (gp ps k) (nx ps k) = cutL ps A B C (k + 1) := (cutL_step ps A B C k).symm
  refine ⟨(), hk, Wk.mk' id (by repeat' constructor) ⟨⟨rfl, by repeat' constructor⟩, ⟨rfl, ⟨rfl, rfl, ?_, ?_⟩⟩, ⟨rfl, by repeat' constructor⟩, ⟨rfl, by repeat' constructor⟩, trivial⟩ (injOK_id _) rfl rfl rfl⟩
  ·rw [e]
  ·rw [e]
 ·rintro _ m _
  have er : cutL ps A B C (sidesL ps).length = cutA ps A B C := by unfold cutA; rw [show (sidesL ps).length = ps.length by simp [sidesL]]
  repeat (first | refine VIf.tt ?_ | refine VIf.ff ?_)
  refine VOwn.frz ?_
  repeat (first | refine VIf.tt ?_ | refine VIf.ff ?_)
  refine VFz.mk fun x Bx M3 hM3 hx => ?_
  have hx : Pts M3 x (cutL ps A B C (sidesL ps).length) := hx
  rw [er] at hx
  repeat (first | refine VIf.tt ?_ | refine VIf.ff ?_)
  refine VFn.mk _ (aroundC_fn x _ M3 hx (cut_place hV A B C)) ?_
  rintro rs M4 hM4 ⟨u, rfl, hu⟩
  repeat (first | refine VIf.tt ?_ | refine VIf.ff ?_)
  exact VFact.mk ⟨u, rfl, hu⟩ trivial
end Go.Proofs.YtdfhnemhkpplbaaGreatDoor
namespace Go.Proofs.YtdfhnemhkpplbaaGreatDoor
open Go Go.V Go.RowKit
theorem three_reg {M : Mem} {x u v w : Value} {ps qs rs : List Pt} (h : SlAt M 1 x 3 [u, v, w]) (hu : Pts M u ps) (hv : Pts M v qs) (hw : Pts M w rs) (iu : i64P ps) (iv : i64P qs) (iw : i64P rs) : RegV M x [ps, qs, rs] :=
 ⟨[[u], [v], [w]], rfl, by simp, h, fun i y r hy hr => by
  rcases i with _ | _ | _ | i
  ·simp at hy hr; subst hy; subst hr; exact ⟨u, rfl, hu, iu⟩
  ·simp at hy hr; subst hy; subst hr; exact ⟨v, rfl, hv, iv⟩
  ·simp at hy hr; subst hy; subst hr; exact ⟨w, rfl, hw, iw⟩
  ·simp at hy⟩
theorem concatC_enters : Enters Tryz.prog 124 := Go.Proofs.enters_of Tryz.func124 rfl rfl
theorem FnRow.mono' {P : Program} {f : Nat} {args : List Value} {M : Mem} {E sz : Nat} {R R' : Nat → List Value → Mem → Prop} (h : FnRow P f args M E sz R) (hr : ∀ n xs M', R n xs M' → R' n xs M') : FnRow P f args M E sz R' :=
 ⟨h.1, fun W hW => (h.2 W hW).mono fun _ _ ⟨v, n, xs, M', k0, k1, k2, k3, k4, k5, k6, k7, k8⟩ => ⟨v, n, xs, M', k0, k1, k2, k3, k4, k5, k6, k7, hr _ _ _ k8⟩⟩
open Go.Shelf in
theorem GrowNil_fn (M : Mem) : FnP Tryz.prog 143 [.slice none 0 0, .int .i64 0] M [.slice none 0 0] :=
 ⟨enters_of Tryz.func143 (by kernel_rfl) rfl, fun W hW => (Any8.slices_Grow_room grLay none 0 0 0 W (Nat.le_refl _) (by omega) (by omega) (Nat.le_refl _)).mono fun e W' ⟨h1, h2⟩ =>
  ⟨[.slice none 0 0], M, h1, by rw [h2]; exact Below.refl _ _, Mem.le_refl _, by rw [h2]; exact hW, fun _ _ => rfl, rfl, rfl⟩⟩
set_option maxRecDepth 20000 in
set_option maxHeartbeats 2000000 in
theorem Concat0_fn (v : Value) (ls : List (List Pt)) (M : Mem) (hv : RegV M v ls) (h0 : ls.flatten = []) :
  V.Fn Tryz.prog 124 [v] M fun rs M' => ∃ u, rs = [u] ∧ Pts M' u [] := by
 obtain ⟨ad, c, rfl, hm, hrd⟩ := hv.get
 have hgd : ∀ i, i < ls.length → ls.getD i [] = [] := fun i hi => by
  have hm : ls.getD i [] ∈ ls := by simp [List.getD_eq_getElem?_getD, List.getElem?_eq_getElem hi]
  exact List.flatten_eq_nil_iff.1 h0 _ hm
 refine Fn.of_vc cxOK Tryz.func124 rfl rfl rfl ?_
 repeat (first | refine VIf.tt ?_ | refine VIf.ff ?_)
 refine VCode.loop cxOK Nat (fun i => ⟨[(0, .v (.slice ad ls.length c)), (3, .v (.int .i64 0)), (9, .v (.slice ad ls.length c)), (10, .v (.int .i64 ls.length)), (11, .v (.int .i64 i))], [], 0, M, 36, ⟨fun _ => none, none, fun _ => none⟩⟩)
  (fun i => i ≤ ls.length) (fun i => ls.length - i) 0 (Nat.zero_le _) (Wk.mk' id (by repeat' constructor) (by repeat' constructor) (injOK_id _) rfl rfl rfl) ?_
 intro i hi m
 repeat (first | refine VIf.tt ?_ | refine VIf.ff ?_)
 refine VIf.mk (fun hlt => ?_) (fun hge => ?_)
 ·have hlt : i < ls.length := lt_of_dec hlt
  obtain ⟨ad', w, ead, hw, hw64, hc⟩ := hrd M (Mem.le_refl _) i hlt
  obtain ⟨wd, wc, rfl⟩ := hw.shape
  have hg := hgd i hlt
  have hg' : (ls.getD i []).length = 0 := by rw [hg]; rfl
  repeat (first | refine VIf.tt ?_ | refine VIf.ff ?_)
  refine VIdx.mk ad' i ead rfl hlt ?_
  repeat (first | refine VIf.tt ?_ | refine VIf.ff ?_)
  refine VRead.mk _ hc ?_
  repeat (first | refine VIf.tt ?_ | refine VIf.ff ?_)
  refine VArith.ok (by simp only [hg']; omega) (by simp only [hg']; omega) ?_
  repeat (first | refine VIf.tt ?_ | refine VIf.ff ?_)
  refine VArith.ok (by first | omega | (simp only; omega)) (by first | omega | (simp only; omega)) ?_
  have ez : (0 : Int) + (((ls.getD i []).length : Nat) : Int) = 0 := by rw [hg']; rfl
  refine ⟨i + 1, hlt, by omega, ?_⟩
  refine Wk.mk' id ⟨⟨rfl, rfl⟩, ⟨?_, rfl⟩, ⟨rfl, rfl⟩, ⟨rfl, rfl⟩, ⟨rfl, rfl⟩, trivial⟩ trivial (injOK_id _) rfl rfl rfl
  exact congrArg (fun n => some (SV.v (.int .i64 n))) ez
 have : i = ls.length := by have := ge_of_dec hge; omega
 subst this
 repeat (first | refine VIf.tt ?_ | refine VIf.ff ?_)
 refine VFn.p (GrowNil_fn M) ?_
 repeat (first | refine VIf.tt ?_ | refine VIf.ff ?_)
 refine VCode.loop cxOK Nat (fun i => ⟨[(0, .v (.slice ad ls.length c)), (6, .row 0), (25, .v (.slice ad ls.length c)), (26, .v (.int .i64 ls.length)), (27, .v (.int .i64 i))], [(0, some (.row 24 2 0 []))], 1, M, 36, ⟨fun _ => none, none, fun _ => none⟩⟩)
  (fun i => i ≤ ls.length) (fun i => ls.length - i) 0 (Nat.zero_le _) ?_ ?_
 ·exact Wk.nil 6 24 2 rfl (Wk.mk' id (by repeat' constructor) (by repeat' constructor) (injOK_id _) rfl rfl rfl)
 intro i hi m
 repeat (first | refine VIf.tt ?_ | refine VIf.ff ?_)
 refine VIf.mk (fun hlt => ?_) (fun hge => ?_)
 ·have hlt : i < ls.length := lt_of_dec hlt
  obtain ⟨ad', w, ead, hw, hw64, hc⟩ := hrd M (Mem.le_refl _) i hlt
  obtain ⟨wd, wc, rfl⟩ := hw.shape
  have hg := hgd i hlt
  have hg' : (ls.getD i []).length = 0 := by rw [hg]; rfl
  repeat (first | refine VIf.tt ?_ | refine VIf.ff ?_)
  refine VIdx.mk ad' i ead rfl hlt ?_
  repeat (first | refine VIf.tt ?_ | refine VIf.ff ?_)
  refine VRead.mk _ hc ?_
  repeat (first | refine VIf.tt ?_ | refine VIf.ff ?_)
  refine VSl.mk (ls.getD i []).length (cellsP (ls.getD i [])) hw ?_
  repeat (first | refine VIf.tt ?_ | refine VIf.ff ?_)
  refine VFact.mk (by show (0 + (ls.getD i []).length) * 16 ≤ _; omega) ?_
  repeat (first | refine VIf.tt ?_ | refine VIf.ff ?_)
  refine VArith.ok (by first | omega | (simp only; omega)) (by first | omega | (simp only; omega)) ?_
  refine ⟨i + 1, hlt, (by first | omega | (simp only; omega)), Wk.mk' (fun k => if k = 0 then 1 else k) (by repeat' constructor) ⟨⟨rfl, ⟨rfl, rfl, ?_, ?_⟩⟩, trivial⟩ (by simp [injOK]) rfl rfl rfl⟩
  ·rw [hg']
  ·rw [hg]; rfl
 ·repeat (first | refine VIf.tt ?_ | refine VIf.ff ?_)
  refine VFz.mk fun u B M1 hM1 hu => ?_
  repeat (first | refine VIf.tt ?_ | refine VIf.ff ?_)
  exact VFact.mk ⟨u, rfl, hu⟩ trivial
set_option maxRecDepth 20000 in
set_option maxHeartbeats 2000000 in
theorem shared_fn (v w : Value) (ps qs : List Pt) (M : Mem) (hv : Pts M v ps) (hw : Pts M w qs) (hp : validB ps = true) (hq : validB qs = true) :
  V.Fn Tryz.prog 102 [v, w] M fun rs M' => ∃ u, rs = [u] ∧ Pts M' u (sharA ps qs) := by
 have hlp := (len_one hp).2
 have hlq := (len_one hq).2
 have hpp := valid_mem hp
 have hqq := valid_mem hq
 refine Fn.of_vc cxIOK Tryz.func102 rfl rfl rfl ?_
 repeat (first | refine VIf.tt ?_ | refine VIf.ff ?_)
 refine VOwn.frz ?_
 repeat (first | refine VIf.tt ?_ | refine VIf.ff ?_)
 refine VFn.mk _ (cornersC_fn v w ps qs M hv hw hq hpp (by omega)) ?_
 rintro rs M1 hM1 ⟨u1, rfl, h1⟩
 repeat (first | refine VIf.tt ?_ | refine VIf.ff ?_)
 refine VOwn.frz ?_
 repeat (first | refine VIf.tt ?_ | refine VIf.ff ?_)
 refine VFn.mk _ (cornersC_fn w v qs ps M1 (hw.le hM1) (hv.le hM1) hp hqq (by omega)) ?_
 rintro rs M2 hM2 ⟨u2, rfl, h2⟩
 repeat (first | refine VIf.tt ?_ | refine VIf.ff ?_)
 refine VOwn.frz ?_
 repeat (first | refine VIf.tt ?_ | refine VIf.ff ?_)
 refine VFn.mk _ (crossings_fn v w ps qs M2 (hv.le (hM1.trans hM2)) (hw.le (hM1.trans hM2)) hp hq) ?_
 rintro rs M3 hM3 ⟨u3, rfl, h3⟩
 obtain ⟨d1, k1, rfl⟩ := h1.shape
 obtain ⟨d2, k2, rfl⟩ := h2.shape
 obtain ⟨d3, k3, rfl⟩ := h3.shape
 have i1 : i64P (cornA ps qs) := mem_64 fun x hx => hpp x (mem_cornA.1 hx).1
 have i2 : i64P (cornA qs ps) := mem_64 fun x hx => hqq x (mem_cornA.1 hx).1
 have i3 : i64P (crosA ps qs) := mem_64 fun x hx => shar_place hp x (mem_sharA.2 (.inr (.inr hx)))
 have efl : [cornA ps qs, cornA qs ps, crosA ps qs].flatten = sharA ps qs := by unfold sharA; simp
 have hlen : (sharA ps qs).length ≤ 100000 := by
  have h1 := List.length_filter_le (hasB qs) ps
  have h2 := List.length_filter_le (hasB ps) qs
  have h3 := crosX_len ps qs hlq ps.length
  unfold sharA cornA crosA
  simp only [List.length_append]
  omega
 by_cases hE : sharA ps qs = []
 ·repeat (first | refine VIf.tt ?_ | refine VIf.ff ?_)
  refine VOwn.frz ?_
  repeat (first | refine VIf.tt ?_ | refine VIf.ff ?_)
  refine VFz.mk fun x Bx M4 hM4 hx => ?_
  repeat (first | refine VIf.tt ?_ | refine VIf.ff ?_)
  refine VFn.mk _ (Concat0_fn x _ M4 (three_reg hx (h1.le (hM2.trans (hM3.trans hM4))) (h2.le (hM3.trans hM4)) (h3.le hM4) i1 i2 i3) (by rw [efl]; exact hE)) ?_
  rintro rs M5 hM5 ⟨u, rfl, hu⟩
  repeat (first | refine VIf.tt ?_ | refine VIf.ff ?_)
  exact VFact.mk ⟨u, rfl, by rw [hE]; exact hu⟩ trivial
 ·have hpos := ne_len hE
  repeat (first | refine VIf.tt ?_ | refine VIf.ff ?_)
  refine VOwn.own ?_
  refine VCall.ofRow1 rfl concatC_enters (R := fun n xs _ => n = (sharA ps qs).length ∧ xs = cellsP (sharA ps qs)) (fun x M4 hM4 hx => FnRow.mono' (Concat_fn x _ M4 (three_reg hx (h1.le (hM2.trans (hM3.trans hM4))) (h2.le (hM3.trans hM4)) (h3.le hM4) i1 i2 i3) (by rw [efl]; omega) (by rw [efl]; omega)) fun k xs M' h => ?_) ?_
  ·rw [efl] at h; exact ⟨h.1, h.2.1⟩
  rintro k xs M4 hM4 ⟨rfl, rfl⟩
  repeat (first | refine VIf.tt ?_ | refine VIf.ff ?_)
  refine VFz.mk fun u B M5 hM5 hu => ?_
  repeat (first | refine VIf.tt ?_ | refine VIf.ff ?_)
  exact VFact.mk ⟨u, rfl, hu⟩ trivial
theorem Apart_fn (v w : Value) (ps qs : List Pt) (M : Mem) (hv : Pts M v ps) (hw : Pts M w qs) (hp64 : i64P ps) (hq64 : i64P qs) :
  V.Fn Tryz.prog 65 [v, w] M fun rs _ => if (validB ps && validB qs) = true then rs = [.bool (((sharA ps qs).length : Int) == 0), .int .i64 0] else rs = [.bool false, .int .i64 1] := by
 refine Fn.of_vc cxOK Tryz.func65 rfl rfl rfl ?_
 repeat (first | refine VIf.tt ?_ | refine VIf.ff ?_)
 refine VFn.mk _ (Valid_fn v ps M hv hp64) ?_
 rintro rs M1 hM1 rfl
 repeat (first | refine VIf.tt ?_ | refine VIf.ff ?_)
 refine VIf.mk (fun h => ?_) (fun h => ?_)
 ·repeat (first | refine VIf.tt ?_ | refine VIf.ff ?_)
  refine VFact.mk ?_ trivial
  rw [(Bool.not_eq_true' _).mp h]; rfl
 have hp := (Bool.not_eq_false' _).mp h
 repeat (first | refine VIf.tt ?_ | refine VIf.ff ?_)
 refine VFn.mk _ (Valid_fn w qs M1 (hw.le hM1) hq64) ?_
 rintro rs M2 hM2 rfl
 repeat (first | refine VIf.tt ?_ | refine VIf.ff ?_)
 refine VIf.mk (fun h => ?_) (fun h => ?_)
 ·repeat (first | refine VIf.tt ?_ | refine VIf.ff ?_)
  refine VFact.mk ?_ trivial
  rw [(Bool.not_eq_true' _).mp h, Bool.and_false]; rfl
 have hq := (Bool.not_eq_false' _).mp h
 rw [hp, hq]
 have m2 := hM1.trans hM2
 repeat (first | refine VIf.tt ?_ | refine VIf.ff ?_)
 refine VFn.mk _ (shared_fn v w ps qs M2 (hv.le m2) (hw.le m2) hp hq) ?_
 rintro rs M3 hM3 ⟨u, rfl, hu⟩
 obtain ⟨d, k, rfl⟩ := hu.shape
 repeat (first | refine VIf.tt ?_ | refine VIf.ff ?_)
 exact VFact.mk rfl trivial
end Go.Proofs.YtdfhnemhkpplbaaGreatDoor
namespace Go.Proofs.YtdfhnemhkpplbaaGreatDoor
open Go Go.V Go.RowKit
end Go.Proofs.YtdfhnemhkpplbaaGreatDoor
namespace Go.Proofs.YtdfhnemhkpplbaaGreatDoor
open Go Go.V Go.RowKit
theorem Cut_is {v : Value} {ps q : List Pt} {A B C : Int} {b : Bool} {M : Mem} (hv : Pts M v ps) (h64 : i64P ps) (hV : validB ps = true) (hH : halfB A B C = true) (hq : arC (cutA ps A B C) = q) (hb : decide (0 < (cutA ps A B C).length) = b) :
  V.Fn Tryz.prog 63 [v, .agg #[.int .i64 A, .int .i64 B, .int .i64 C]] M fun rs M' => ∃ u, rs = [u, .bool b, .int .i64 0] ∧ Pts M' u q :=
 (Cut_fn v ps A B C M hv h64).mono fun rs M' _ h => by
  rw [hV, hH, if_pos (by rfl), hq, hb] at h; exact h
theorem Apart_is {v w : Value} {ps qs : List Pt} {b : Bool} {M : Mem} (hv : Pts M v ps) (hw : Pts M w qs) (hp : validB ps = true) (hq : validB qs = true) (hb : (((sharA ps qs).length : Int) == 0) = b) :
  V.Fn Tryz.prog 65 [v, w] M fun rs _ => rs = [.bool b, .int .i64 0] :=
 (Apart_fn v w ps qs M hv hw (mem_64 (valid_mem hp)) (mem_64 (valid_mem hq))).mono fun rs M' _ h => by
  rw [hp, hq, if_pos (by rfl), hb] at h; exact h
theorem arC_eq {l p : List Pt} (hne : l ≠ []) (hl : l.length ≤ 4000) (hv : validB p = true) (h1 : ∀ y ∈ l, hasB p y = true) (h2 : ∀ y ∈ p, y ∈ l) : arC l = p := by
 have hh : Hl l p := hl_of_has hv h1 h2
 unfold arC
 rw [if_neg hne, around_eq hh, if_pos ⟨hl, (len_one hv).2⟩]
end Go.Proofs.YtdfhnemhkpplbaaGreatDoor
namespace Go.Proofs.YtdfhnemhkpplbaaGreatDoor
open Go Go.V Go.RowKit
theorem Over04_fn (A B C : Int) (x : Pt) (M : Mem) (h : halfB A B C = true) (hx : placeB x = true) : FnP Tryz.prog 130 [.agg #[.int .i64 A, .int .i64 B, .int .i64 C], ptv x] M [.int .i64 (ovr A B C x)] := by
 have hp := place_C hx
 unfold isC at hp
 simp only [halfB, Bool.and_eq_true, decide_eq_true_eq] at h
 have e1 := mul_bd (a := A) (b := x.1) 1000000 500000 (by omega) (by omega) (by omega) (by omega) (by omega) (by omega)
 have e2 := mul_bd (a := B) (b := x.2) 1000000 500000 (by omega) (by omega) (by omega) (by omega) (by omega) (by omega)
 refine Fn.of_vc cxOK Tryz.func130 rfl rfl rfl ?_
 repeat (first | refine VIf.tt ?_ | refine VIf.ff ?_)
 refine VArith.ok (by first | omega | (simp only; omega)) (by first | omega | (simp only; omega)) ?_
 repeat (first | refine VIf.tt ?_ | refine VIf.ff ?_)
 refine VArith.ok (by first | omega | (simp only; omega)) (by first | omega | (simp only; omega)) ?_
 repeat (first | refine VIf.tt ?_ | refine VIf.ff ?_)
 refine VArith.ok (by first | omega | (simp only; omega)) (by first | omega | (simp only; omega)) ?_
 repeat (first | refine VIf.tt ?_ | refine VIf.ff ?_)
 refine VArith.ok (by first | omega | (simp only; omega)) (by first | omega | (simp only; omega)) ?_
 repeat (first | refine VIf.tt ?_ | refine VIf.ff ?_)
 exact VFact.mk ⟨rfl, rfl⟩ trivial
theorem half_ne {A B C : Int} (h : halfB A B C = true) : ¬ (A = 0 ∧ B = 0) := by
 simp only [halfB, Bool.and_eq_true, Bool.not_eq_true', Bool.and_eq_false_iff, decide_eq_true_eq, decide_eq_false_iff_not] at h
 omega
theorem arC_64 {l : List Pt} (hP : ∀ x ∈ l, placeB x = true) : i64P (arC l) := by
 by_cases e : l = []
 ·subst e; exact fun i hi => by cases hi
 ·exact mem_64 (valid_mem (arC_valid e hP))
end Go.Proofs.YtdfhnemhkpplbaaGreatDoor
namespace Go.Proofs.YtdfhnemhkpplbaaGreatDoor
open Go Go.V
def mv (q p : Pt) : Pt := (p.1 + q.1, p.2 + q.2)
theorem len_move (q : Pt) (ps : List Pt) : (moveP q ps).length = ps.length := by simp [moveP]
theorem gp_move (q : Pt) {ps : List Pt} {i : Nat} (h : i < ps.length) : gp (moveP q ps) i = mv q (gp ps i) := by simp [gp, moveP, mv, h]
theorem cross_move (q a b c : Pt) : crossP (mv q a) (mv q b) (mv q c) = crossP a b c := by unfold crossP cross mv; grind
theorem betw_move (q a b x : Pt) : betwB (mv q a) (mv q b) (mv q x) = betwB a b x := by
 unfold betwB mv; refine decide_eq_decide.2 ?_; dsimp only
 have e1 : min (a.1 + q.1) (b.1 + q.1) = min a.1 b.1 + q.1 := by omega
 have e2 : max (a.1 + q.1) (b.1 + q.1) = max a.1 b.1 + q.1 := by omega
 have e3 : min (a.2 + q.2) (b.2 + q.2) = min a.2 b.2 + q.2 := by omega
 have e4 : max (a.2 + q.2) (b.2 + q.2) = max a.2 b.2 + q.2 := by omega
 rw [e1, e2, e3, e4]; omega
theorem has_move (q : Pt) (ps : List Pt) (x : Pt) : hasB (moveP q ps) (mv q x) = hasB ps x := by
 unfold hasB
 rw [len_move]
 by_cases h1 : ps.length = 1
 ·rw [if_pos h1, if_pos h1, gp_move q (by omega), Bool.eq_iff_iff, beq_iff_eq, beq_iff_eq]
  unfold mv
  constructor
  ·intro h
   simp only [Prod.mk.injEq] at h
   exact Prod.ext (by omega) (by omega)
  ·intro h; rw [h]
 rw [if_neg h1, if_neg h1]
 by_cases h2 : ps.length = 2
 ·rw [if_pos h2, if_pos h2, gp_move q (by omega), gp_move q (by omega), cross_move, betw_move]
 rw [if_neg h2, if_neg h2, Bool.eq_iff_iff, all_iff, all_iff]
 have e : ∀ i, i < ps.length → sideB (moveP q ps) (mv q x) i = sideB ps x i := fun i hi => by
  unfold sideB
  rw [len_move, gp_move q hi, gp_move q (Nat.mod_lt _ (by omega)), cross_move]
 exact ⟨fun h i hi => by rw [← e i hi]; exact h i hi, fun h i hi => by rw [e i hi]; exact h i hi⟩
theorem flat_one : ∀ ws : List Value, (ws.map fun w => [w]).flatten = ws
 | [] => rfl
 | w :: ws => by simp only [List.map_cons, List.flatten_cons, flat_one ws]; rfl
end Go.Proofs.YtdfhnemhkpplbaaGreatDoor
namespace Go.Proofs.YtdfhnemhkpplbaaGreatDoor
open Go
theorem sq0 (z : Int) : 0 ≤ z * z := by
 rcases Int.le_total 0 z with h | h
 ·exact Int.mul_nonneg h h
 ·exact Int.mul_nonneg_of_nonpos_of_nonpos h h
def innK (m : Int) : Int := (m * 707).tdiv 1000
def innL (m k : Int) : List Pt := [(-m, 0), (-k, -k), (0, -m), (k, -k), (m, 0), (k, k), (0, m), (-k, k)]
def innA (m : Int) : List Pt := aroundP (innL m (innK m))
theorem innK_bd {m : Int} (h : 0 ≤ m) : 0 ≤ innK m ∧ 1000 * innK m ≤ 707 * m ∧ 707 * m ≤ 1000 * innK m + 999 ∧ innK m ≤ m := by
 have e : innK m = m * 707 / 1000 := Int.tdiv_eq_ediv_of_nonneg (by omega)
 omega
theorem innL_ne (m k : Int) : innL m k ≠ [] := by simp [innL]
theorem innA_hl (m : Int) : Hl (innL m (innK m)) (innA m) := around_hl (innL_ne _ _)
theorem innL_iff {P : Pt → Prop} {m k : Int} : (∀ y ∈ innL m k, P y) ↔ P (-m, 0) ∧ P (-k, -k) ∧ P (0, -m) ∧ P (k, -k) ∧ P (m, 0) ∧ P (k, k) ∧ P (0, m) ∧ P (-k, k) := by
 simp [innL]
theorem innL_place {m : Int} (h : 0 ≤ m ∧ m ≤ 99999) : ∀ y ∈ innL m (innK m), placeB y = true := by
 have hk := innK_bd h.1
 rw [innL_iff]
 refine ⟨?_, ?_, ?_, ?_, ?_, ?_, ?_, ?_⟩ <;> exact place_box.2 (by simp only; omega)
theorem innA_valid {m : Int} (h : 0 ≤ m ∧ m ≤ 99999) : validB (innA m) = true :=
 (innA_hl m).valid (innL_place h) (by have := hl_len (innA_hl m); simp [innL] at this; omega)
theorem innA_has {m : Int} (h : 0 ≤ m ∧ m ≤ 99999) {y : Pt} : hasB (innA m) y = true ↔ linIn (innL m (innK m)) y :=
 ⟨fun hy α β γ hall => at_corners (innA_valid h) hy α β γ fun i hi => hall _ ((innA_hl m).mem hi), fun hy => hl_lin (innA_hl m) hy⟩
theorem innA_near {m : Int} (h : 0 ≤ m ∧ m ≤ 99999) {y : Pt} (hy : hasB (innA m) y = true) : y.1 * y.1 + y.2 * y.2 ≤ m * m := by
 have hl := innA_has h |>.1 hy
 have hk := innK_bd h.1
 obtain ⟨u, v⟩ := y
 simp only
 refine Decidable.byContradiction fun hn => ?_
 have hn : m * m < u * u + v * v := by omega
 have key : ∀ a b : Int, a * a + b * b ≤ m * m → 0 ≤ aff (-u) (-v) (u * u + v * v - 1) (a, b) := fun a b hab => by
  unfold aff
  simp only
  have q1 : 0 ≤ (u - a) * (u - a) + (v - b) * (v - b) := Int.add_nonneg (sq0 _) (sq0 _)
  have q2 : (u - a) * (u - a) + (v - b) * (v - b) = u * u + v * v + (a * a + b * b) - 2 * (u * a + v * b) := by grind
  have q3 : -u * a + -v * b = -(u * a + v * b) := by grind
  omega
 have kk : innK m * innK m + innK m * innK m ≤ m * m := by
  have e1 : (1000 * innK m) * (1000 * innK m) ≤ (707 * m) * (707 * m) := Int.mul_le_mul hk.2.1 hk.2.1 (by omega) (by omega)
  have e2 : (1000 * innK m) * (1000 * innK m) = 1000000 * (innK m * innK m) := by grind
  have e3 : (707 * m) * (707 * m) = 499849 * (m * m) := by grind
  have e4 := Int.mul_nonneg h.1 h.1
  omega
 generalize innK m = k at *
 have n1 : ∀ z : Int, -z * -z = z * z := fun z => by grind
 have hz := hl (-u) (-v) (u * u + v * v - 1) (innL_iff.2 ⟨key _ _ (by rw [n1]; omega), key _ _ (by rw [n1]; omega), key _ _ (by rw [n1]; omega), key _ _ (by rw [n1]; omega), key _ _ (by omega), key _ _ (by omega), key _ _ (by omega), key _ _ (by rw [n1]; omega)⟩)
 unfold aff at hz
 simp only at hz
 have : -u * u + -v * v = -(u * u + v * v) := by grind
 omega
theorem innA_mono {m n : Int} (h : 0 ≤ m ∧ m ≤ n ∧ n ≤ 99999) {y : Pt} (hy : hasB (innA m) y = true) : hasB (innA n) y = true := by
 refine (innA_has (by omega)).2 fun α β γ hall => (innA_has (by omega)).1 hy α β γ ?_
 rw [innL_iff] at hall ⊢
 have hk := innK_bd h.1
 have hk' := innK_bd (m := n) (by omega)
 have hkk : innK m ≤ innK n := by omega
 generalize innK m = k at *
 generalize innK n = l at *
 obtain ⟨h1, h2, h3, h4, h5, h6, h7, h8⟩ := hall
 unfold aff at *
 simp only at *
 have sc : ∀ z s t : Int, -t ≤ s → s ≤ t → 0 ≤ z * t + γ → 0 ≤ z * -t + γ → 0 ≤ z * s + γ := fun z s t g1 g2 g3 g4 => by
  rcases Int.le_total 0 z with hz | hz
  ·have := Int.mul_le_mul_of_nonneg_left g1 hz
   omega
  ·have := Int.mul_le_mul_of_nonpos_left hz g2
   omega
 have s1 := sc α
 have s2 := sc β
 have s3 := sc (α + β)
 have s4 := sc (α - β)
 have r1 : ∀ s : Int, α * s + β * s + γ = (α + β) * s + γ := fun s => by grind
 have r2 : ∀ s : Int, α * s + β * -s + γ = (α - β) * s + γ := fun s => by grind
 have r3 : ∀ s : Int, α * -s + β * s + γ = (α - β) * -s + γ := fun s => by grind
 have r4 : ∀ s : Int, α * s + β * 0 + γ = α * s + γ := fun s => by grind
 have r5 : ∀ s : Int, α * 0 + β * s + γ = β * s + γ := fun s => by grind
 rw [r4] at h1 h5 ⊢
 rw [r5] at h3 h7 ⊢
 rw [r1] at h2 h6 ⊢
 rw [r2] at h4 ⊢
 rw [r3] at h8 ⊢
 rw [r4, r5, r1]
 exact ⟨s1 _ n (by omega) (by omega) h5 h1, s3 _ l (by omega) (by omega) h6 h2, s2 _ n (by omega) (by omega) h7 h3, s4 _ l (by omega) (by omega) h4 h8, s1 _ n (by omega) (by omega) h5 h1, s3 _ l (by omega) (by omega) h6 h2, s2 _ n (by omega) (by omega) h7 h3, s4 _ l (by omega) (by omega) h4 h8⟩
theorem cauchy (a b u v : Int) : (a * u + b * v) * (a * u + b * v) ≤ (a * a + b * b) * (u * u + v * v) := by
 have h := sq0 (a * v - b * u)
 have e : (a * a + b * b) * (u * u + v * v) - (a * u + b * v) * (a * u + b * v) = (a * v - b * u) * (a * v - b * u) := by grind
 omega
theorem inn_slope {m e X : Int} (hm : 4 ≤ m) (he : 0 ≤ e ∧ e ≤ 999) (hX : X = 920 * m - 3080) :
  ((707 * m - e) * (707 * m - e) + (293 * m + e) * (293 * m + e)) * (X * X) ≤ 1000000 * (m * m) * ((707 * m - e) * (707 * m - e)) := by
 obtain ⟨Y, hY⟩ : ∃ Y, Y = 390 * m + 2000 := ⟨_, rfl⟩
 obtain ⟨a, ha⟩ : ∃ a, a = 707 * m - e := ⟨_, rfl⟩
 obtain ⟨b, hb⟩ : ∃ b, b = 293 * m + e := ⟨_, rfl⟩
 rw [← ha, ← hb]
 have mm := Int.mul_le_mul_of_nonneg_right hm (show 0 ≤ m by omega)
 have me := Int.mul_le_mul_of_nonneg_left he.2 (show 0 ≤ m by omega)
 have me0 := Int.mul_nonneg (show 0 ≤ m by omega) he.1
 have c1 : b * X ≤ a * Y := by
  have e1 : b * X = 269560 * (m * m) - 902440 * m + 920 * (m * e) - 3080 * e := by subst hb hX; grind
  have e2 : a * Y = 275730 * (m * m) + 1414000 * m - 390 * (m * e) - 2000 * e := by subst ha hY; grind
  rw [e1, e2]; omega
 have c2 : X * X + Y * Y ≤ 1000000 * (m * m) := by
  have e1 : X * X = 846400 * (m * m) - 5667200 * m + 9486400 := by subst hX; grind
  have e2 : Y * Y = 152100 * (m * m) + 1560000 * m + 4000000 := by subst hY; grind
  rw [e1, e2]; omega
 have b0 : 0 ≤ b * X := Int.mul_nonneg (by omega) (by omega)
 have c3 : (b * X) * (b * X) ≤ (a * Y) * (a * Y) := Int.mul_le_mul c1 c1 b0 (by omega)
 have c4 := Int.mul_le_mul_of_nonneg_left c2 (sq0 a)
 have e1 : (a * a + b * b) * (X * X) = a * a * (X * X) + (b * X) * (b * X) := by grind
 have e2 : a * a * (X * X + Y * Y) = a * a * (X * X) + (a * Y) * (a * Y) := by grind
 have e3 : a * a * (1000000 * (m * m)) = 1000000 * (m * m) * (a * a) := by grind
 omega
theorem inn_dir {m a b X A B g : Int} (ha : 0 < a) (hb : 0 ≤ b) (hba : b ≤ a) (hab : a + b = 1000 * m) (hX : (a * a + b * b) * (X * X) ≤ 1000000 * (m * m) * (a * a)) (hB : 0 ≤ B) (hBA : B ≤ A) (g1 : A * m ≤ g) (g2 : (A + B) * a ≤ 1000 * g) (hg : 0 ≤ g) :
  (A * A + B * B) * (X * X) ≤ 1000000 * (g * g) := by
 have hA : 0 ≤ A := by omega
 rcases Int.le_total (B * a) (A * b) with hc | hc
 ·have q1 : (B * a) * (B * a) ≤ (A * b) * (A * b) := Int.mul_le_mul hc hc (Int.mul_nonneg hB (by omega)) (Int.mul_nonneg hA hb)
  have q2 := Int.mul_le_mul_of_nonneg_right q1 (sq0 X)
  have q3 := Int.mul_le_mul_of_nonneg_left hX (sq0 A)
  have q4 : (A * m) * (A * m) ≤ g * g := Int.mul_le_mul g1 g1 (Int.mul_nonneg hA (by omega)) hg
  have q5 := Int.mul_le_mul_of_nonneg_left q4 (sq0 a)
  have e1 : (a * a) * ((A * A + B * B) * (X * X)) = A * A * (a * a) * (X * X) + (B * a) * (B * a) * (X * X) := by grind
  have e2 : A * A * ((a * a + b * b) * (X * X)) = A * A * (a * a) * (X * X) + (A * b) * (A * b) * (X * X) := by grind
  have e3 : A * A * (1000000 * (m * m) * (a * a)) = 1000000 * (a * a * ((A * m) * (A * m))) := by grind
  have e4 : (a * a) * (1000000 * (g * g)) = 1000000 * (a * a * (g * g)) := by grind
  have fin : (a * a) * ((A * A + B * B) * (X * X)) ≤ (a * a) * (1000000 * (g * g)) := by omega
  exact Int.le_of_mul_le_mul_left fin (Int.mul_pos ha ha)
 ·have q1 : 0 ≤ (A * a - B * b) * (B * a - A * b) := by
   refine Int.mul_nonneg ?_ (by omega)
   have := Int.mul_le_mul hBA hba hb hA
   omega
  have q2 : (A * A + B * B) * ((a + b) * (a + b)) ≤ (A + B) * (A + B) * (a * a + b * b) := by
   have e : (A + B) * (A + B) * (a * a + b * b) - (A * A + B * B) * ((a + b) * (a + b)) = 2 * ((A * a - B * b) * (B * a - A * b)) := by grind
   omega
  have q3 := Int.mul_le_mul_of_nonneg_right q2 (sq0 X)
  have q4 := Int.mul_le_mul_of_nonneg_left hX (sq0 (A + B))
  have q5 : ((A + B) * a) * ((A + B) * a) ≤ (1000 * g) * (1000 * g) := Int.mul_le_mul g2 g2 (Int.mul_nonneg (by omega) (by omega)) (by omega)
  have hm : 0 < m := by omega
  have q6 := Int.mul_le_mul_of_nonneg_left q5 (sq0 m)
  have e1 : (A * A + B * B) * ((a + b) * (a + b)) * (X * X) = (1000000 * (m * m)) * ((A * A + B * B) * (X * X)) := by rw [hab]; grind
  have e2 : (A + B) * (A + B) * (a * a + b * b) * (X * X) = (A + B) * (A + B) * ((a * a + b * b) * (X * X)) := by grind
  have e3 : (A + B) * (A + B) * (1000000 * (m * m) * (a * a)) = 1000000 * (m * m * (((A + B) * a) * ((A + B) * a))) := by grind
  have e4 : (1000000 * (m * m)) * (1000000 * (g * g)) = 1000000 * (m * m * ((1000 * g) * (1000 * g))) := by grind
  have fin : (1000000 * (m * m)) * ((A * A + B * B) * (X * X)) ≤ (1000000 * (m * m)) * (1000000 * (g * g)) := by omega
  exact Int.le_of_mul_le_mul_left fin (Int.mul_pos (by omega) (Int.mul_pos hm hm))
theorem innA_far {m : Int} (h : 4 ≤ m ∧ m ≤ 99999) {y : Pt} (hy : 1000000 * (y.1 * y.1 + y.2 * y.2) ≤ (920 * m - 3080) * (920 * m - 3080)) : hasB (innA m) y = true := by
 refine (innA_has (by omega)).2 fun α β γ hall => ?_
 rw [innL_iff] at hall
 have hk := innK_bd (m := m) (by omega)
 obtain ⟨e, he⟩ : ∃ e, e = 707 * m - 1000 * innK m := ⟨_, rfl⟩
 have hsl := inn_slope (m := m) (e := e) (X := 920 * m - 3080) h.1 (by omega) rfl
 have ea : 707 * m - e = 1000 * innK m := by omega
 rw [ea] at hsl
 obtain ⟨X, hX⟩ : ∃ X, X = 920 * m - 3080 := ⟨_, rfl⟩
 rw [← hX] at hsl hy
 generalize innK m = k at *
 obtain ⟨h1, h2, h3, h4, h5, h6, h7, h8⟩ := hall
 obtain ⟨u, v⟩ := y
 unfold aff at *
 simp only at *
 have ng : ∀ a s : Int, a * -s = -(a * s) := fun a s => by grind
 rw [ng, Int.mul_zero] at h1
 rw [ng, ng] at h2
 rw [ng, Int.mul_zero] at h3
 rw [ng] at h4 h8
 rw [Int.mul_zero] at h5 h7
 -- the greatest is at most γ
 have main : (α * α + β * β) * (X * X) ≤ 1000000 * (γ * γ) := by
  have hab : 1000 * k + (293 * m + e) = 1000 * m := by omega
  have d := fun A B (hB : 0 ≤ B) (hBA : B ≤ A) (g1 : A * m ≤ γ) (g2 : A * k + B * k ≤ γ) => inn_dir (m := m) (a := 1000 * k) (b := 293 * m + e) (X := X) (A := A) (B := B) (g := γ) (by omega) (by omega) (by omega) hab hsl hB hBA g1 (by
   have : (A + B) * (1000 * k) = 1000 * (A * k + B * k) := by grind
   omega) (by omega)
  have sq : ∀ z : Int, -z * -z = z * z := fun z => by grind
  have nm : ∀ z s : Int, -z * s = -(z * s) := fun z s => by grind
  rcases Int.le_total 0 α with ha | ha <;> rcases Int.le_total 0 β with hb | hb
  ·rcases Int.le_total β α with hc | hc
   ·exact d α β hb hc (by omega) (by omega)
   ·have := d β α ha hc (by omega) (by omega)
    rw [Int.add_comm (β * β)] at this; exact this
  ·rcases Int.le_total (-β) α with hc | hc
   ·have := d α (-β) (by omega) hc (by omega) (by rw [nm]; omega)
    rw [sq] at this; exact this
   ·have := d (-β) α ha hc (by rw [nm]; omega) (by rw [nm]; omega)
    rw [sq, Int.add_comm (β * β)] at this; exact this
  ·rcases Int.le_total β (-α) with hc | hc
   ·have := d (-α) β hb hc (by rw [nm]; omega) (by rw [nm]; omega)
    rw [sq] at this; exact this
   ·have := d β (-α) (by omega) hc (by omega) (by rw [nm]; omega)
    rw [sq, Int.add_comm (β * β)] at this; exact this
  ·rcases Int.le_total (-β) (-α) with hc | hc
   ·have := d (-α) (-β) (by omega) hc (by rw [nm]; omega) (by rw [nm, nm]; omega)
    rw [sq, sq] at this; exact this
   ·have := d (-β) (-α) (by omega) hc (by rw [nm]; omega) (by rw [nm, nm]; omega)
    rw [sq, sq, Int.add_comm (β * β)] at this; exact this
 have g0 : 0 ≤ γ := by omega
 refine Decidable.byContradiction fun hn => ?_
 have hn : γ < -(α * u + β * v) := by omega
 have q1 := cauchy α β u v
 have q2 := Int.mul_le_mul_of_nonneg_left hy (Int.add_nonneg (sq0 α) (sq0 β))
 have q3 : (γ + 1) * (γ + 1) ≤ (-(α * u + β * v)) * (-(α * u + β * v)) := Int.mul_le_mul (by omega) (by omega) (by omega) (by omega)
 have e1 : (-(α * u + β * v)) * (-(α * u + β * v)) = (α * u + β * v) * (α * u + β * v) := by grind
 have e2 : (α * α + β * β) * (1000000 * (u * u + v * v)) = 1000000 * ((α * α + β * β) * (u * u + v * v)) := by grind
 have e3 : (γ + 1) * (γ + 1) = γ * γ + 2 * γ + 1 := by grind
 omega
end Go.Proofs.YtdfhnemhkpplbaaGreatDoor
namespace Go.Proofs.YtdfhnemhkpplbaaGreatDoor
open Go
def covIK (l : List (List Pt)) (i k : Nat) : Bool := (decide (k ≠ i) && withinB (gr l i) (gr l k)) && (decide (k < i) || !decide (gr l i = gr l k))
def covB (l : List (List Pt)) (i : Nat) : Bool := (List.range l.length).any (covIK l i)
def keptL (l : List (List Pt)) (n : Nat) : List (List Pt) := (List.range n).flatMap fun i => if covB l i = true then [] else [gr l i]
def keptA (l : List (List Pt)) : List (List Pt) := keptL l l.length
theorem keptL_step (l : List (List Pt)) (n : Nat) : keptL l (n + 1) = keptL l n ++ (if covB l n = true then [] else [gr l n]) := by unfold keptL; rw [List.range_succ, List.flatMap_append]; simp
theorem keptL_len (l : List (List Pt)) : ∀ n, (keptL l n).length ≤ n
 | 0 => by simp [keptL]
 | n + 1 => by
  have := keptL_len l n
  rw [keptL_step, List.length_append]
  split <;> simp <;> omega
theorem mem_keptA {l : List (List Pt)} {p : List Pt} : p ∈ keptA l ↔ ∃ i, i < l.length ∧ covB l i = false ∧ p = gr l i := by
 unfold keptA keptL
 simp only [List.mem_flatMap, List.mem_range]
 constructor
 ·rintro ⟨i, hi, h⟩
  split at h
  ·cases h
  ·rename_i hc
   exact ⟨i, hi, by simpa using hc, by simpa using h⟩
 ·rintro ⟨i, hi, hc, rfl⟩
  exact ⟨i, hi, by rw [hc]; simp⟩
theorem gr_mem {l : List (List Pt)} {i : Nat} (h : i < l.length) : gr l i ∈ l := by unfold gr; simp [h]
theorem mem_gr {l : List (List Pt)} {p : List Pt} (h : p ∈ l) : ∃ i, i < l.length ∧ gr l i = p := by
 obtain ⟨i, hi, rfl⟩ := List.getElem_of_mem h
 exact ⟨i, hi, by unfold gr; simp [hi]⟩
theorem keptA_sub {l : List (List Pt)} {p : List Pt} (h : p ∈ keptA l) : p ∈ l := by
 obtain ⟨i, hi, _, rfl⟩ := mem_keptA.1 h
 exact gr_mem hi
theorem covIK_iff {l : List (List Pt)} {i k : Nat} : covIK l i k = true ↔ (k ≠ i ∧ withinB (gr l i) (gr l k) = true) ∧ (k < i ∨ gr l i ≠ gr l k) := by
 unfold covIK
 simp only [Bool.and_eq_true, Bool.or_eq_true, decide_eq_true_eq, Bool.not_eq_true', decide_eq_false_iff_not]
theorem val_gr {l : List (List Pt)} (hV : ∀ p ∈ l, validB p = true) {i : Nat} (h : i < l.length) : validB (gr l i) = true := hV _ (gr_mem h)
end Go.Proofs.YtdfhnemhkpplbaaGreatDoor
namespace Go.Proofs.YtdfhnemhkpplbaaGreatDoor
open Go
def tidyB (l : List (List Pt)) : List (List Pt) := if (keptA l).length ≤ 32 then keptA l else (keptA l).take 31 ++ [octL ((keptA l).drop 31).flatten]
def regB (r : List (List Pt)) (x : Pt) : Bool := r.any fun p => hasB p x
theorem within_iff {p q : List Pt} : withinB p q = true ↔ ∀ y ∈ p, hasB q y = true := by unfold withinB; exact List.all_eq_true
theorem within_in {p q : List Pt} (hp : validB p = true) (hq : validB q = true) (h : withinB p q = true) {x : Pt} (hx : hasB p x = true) : hasB q x = true := by
 refine hl_lin (hl_of_valid hq) fun α β γ hall => ?_
 refine at_corners hp hx α β γ fun i hi => ?_
 exact at_corners hq (within_iff.1 h _ (gp_mem hi)) α β γ fun k hk => hall _ (gp_mem hk)
theorem within_refl {p : List Pt} (hp : validB p = true) : withinB p p = true := within_iff.2 fun y hy => (hl_of_valid hp).has hy
theorem within_trans {p q r : List Pt} (hq : validB q = true) (hr : validB r = true) (h1 : withinB p q = true) (h2 : withinB q r = true) : withinB p r = true :=
 within_iff.2 fun y hy => within_in hq hr h2 (within_iff.1 h1 y hy)
theorem within_anti {p q : List Pt} (hp : validB p = true) (hq : validB q = true) (h1 : withinB p q = true) (h2 : withinB q p = true) : p = q := by
 have a : Hl (p ++ q) p := hl_of_has hp (fun y hy => by
  rcases List.mem_append.1 hy with h | h
  ·exact (hl_of_valid hp).has h
  ·exact within_iff.1 h2 y h) fun y hy => List.mem_append.2 (.inl hy)
 have b : Hl (p ++ q) q := hl_of_has hq (fun y hy => by
  rcases List.mem_append.1 hy with h | h
  ·exact within_iff.1 h1 y h
  ·exact (hl_of_valid hq).has h) fun y hy => List.mem_append.2 (.inr hy)
 exact (around_eq a).symm.trans (around_eq b)
theorem covIK_trans {l : List (List Pt)} (hV : ∀ p ∈ l, validB p = true) {i k j : Nat} (hi : i < l.length) (hk : k < l.length) (hj : j < l.length) (h1 : covIK l i k = true) (h2 : covIK l k j = true) : covIK l i j = true := by
 obtain ⟨⟨a1, a2⟩, a3⟩ := covIK_iff.1 h1
 obtain ⟨⟨b1, b2⟩, b3⟩ := covIK_iff.1 h2
 have w := within_trans (val_gr hV hk) (val_gr hV hj) a2 b2
 by_cases e : gr l i = gr l j
 ·have e1 : gr l i = gr l k := within_anti (val_gr hV hi) (val_gr hV hk) a2 (by rw [e]; exact b2)
  have e2 : gr l k = gr l j := e1.symm.trans e
  have c1 : k < i := a3.resolve_right fun h => h e1
  have c2 : j < k := b3.resolve_right fun h => h e2
  exact covIK_iff.2 ⟨⟨by omega, w⟩, .inl (by omega)⟩
 ·exact covIK_iff.2 ⟨⟨fun h => e (by rw [h]), w⟩, .inr e⟩
theorem kept_over {l : List (List Pt)} (hV : ∀ p ∈ l, validB p = true) : ∀ (n i : Nat), i < l.length → ((List.range l.length).filter (covIK l i)).length ≤ n → ∃ p ∈ keptA l, withinB (gr l i) p = true
 | n, i, hi, hn => by
  by_cases hc : covB l i = true
  ·obtain ⟨k, hk, hik⟩ := List.any_eq_true.1 hc
   have hk' := List.mem_range.1 hk
   have hlt : ((List.range l.length).filter (covIK l k)).length < ((List.range l.length).filter (covIK l i)).length := by
    have hsub : ∀ j ∈ List.range l.length, covIK l k j = true → covIK l i j = true := fun j hj h => covIK_trans hV hi hk' (List.mem_range.1 hj) hik h
    have hkk : covIK l k k = false := by
     cases h : covIK l k k with
     | false => rfl
     | true => exact absurd rfl (covIK_iff.1 h).1.1
    have key : ∀ r : List Nat, (∀ j ∈ r, covIK l k j = true → covIK l i j = true) → (r.filter (covIK l k)).length ≤ (r.filter (covIK l i)).length ∧ (k ∈ r → (r.filter (covIK l k)).length < (r.filter (covIK l i)).length) := by
     intro r
     induction r with
     | nil => intro _; exact ⟨Nat.le_refl _, fun h => by cases h⟩
     | cons j r ih =>
      intro h
      obtain ⟨h1, h2⟩ := ih fun j hj => h j (List.mem_cons_of_mem _ hj)
      have hj := h j List.mem_cons_self
      simp only [List.filter_cons]
      cases ck : covIK l k j with
      | true =>
       rw [hj ck]
       simp only [if_true, List.length_cons]
       refine ⟨by omega, fun hm => ?_⟩
       rcases List.mem_cons.1 hm with rfl | hm
       ·rw [hkk] at ck; cases ck
       ·have := h2 hm; omega
      | false =>
       cases ci : covIK l i j with
       | true =>
        simp only [if_true, Bool.false_eq_true, if_false, List.length_cons]
        exact ⟨by omega, fun _ => by omega⟩
       | false =>
        simp only [Bool.false_eq_true, if_false]
        refine ⟨h1, fun hm => ?_⟩
        rcases List.mem_cons.1 hm with rfl | hm
        ·rw [hik] at ci; cases ci
        ·exact h2 hm
    exact (key _ hsub).2 hk
   match n, hn with
   | 0, hn => omega
   | n + 1, hn =>
    obtain ⟨p, hp, hw⟩ := kept_over hV n k hk' (by omega)
    exact ⟨p, hp, within_trans (val_gr hV hk') (hV p (keptA_sub hp)) (covIK_iff.1 hik).1.2 hw⟩
  ·exact ⟨gr l i, mem_keptA.2 ⟨i, hi, by simpa using hc, rfl⟩, within_refl (val_gr hV hi)⟩
theorem regB_iff {r : List (List Pt)} {x : Pt} : regB r x = true ↔ ∃ p ∈ r, hasB p x = true := by unfold regB; exact List.any_eq_true
theorem kept_has {l : List (List Pt)} (hV : ∀ p ∈ l, validB p = true) (x : Pt) : regB (keptA l) x = regB l x := by
 rw [Bool.eq_iff_iff, regB_iff, regB_iff]
 constructor
 ·rintro ⟨p, hp, hx⟩; exact ⟨p, keptA_sub hp, hx⟩
 ·rintro ⟨p, hp, hx⟩
  obtain ⟨i, hi, rfl⟩ := mem_gr hp
  obtain ⟨q, hq, hw⟩ := kept_over hV _ i hi (Nat.le_refl _)
  exact ⟨q, hq, within_in (val_gr hV hi) (hV q (keptA_sub hq)) hw hx⟩
theorem flat_ne {l : List (List Pt)} (hV : ∀ p ∈ l, validB p = true) (h : l ≠ []) : l.flatten ≠ [] := by
 cases l with
 | nil => exact absurd rfl h
 | cons p l =>
  intro e
  have := (len_one (hV p List.mem_cons_self)).1
  rw [List.flatten_cons, List.append_eq_nil_iff] at e
  rw [e.1] at this; simp at this
theorem flat_place {l : List (List Pt)} (hV : ∀ p ∈ l, validB p = true) : ∀ x ∈ l.flatten, placeB x = true := fun x hx => by
 obtain ⟨p, hp, hx⟩ := List.mem_flatten.1 hx
 exact valid_mem (hV p hp) x hx
theorem tidy_rest {l : List (List Pt)} (hV : ∀ p ∈ l, validB p = true) (h : ¬ (keptA l).length ≤ 32) : (∀ p ∈ (keptA l).drop 31, validB p = true) ∧ ((keptA l).drop 31).flatten ≠ [] ∧ ∀ x ∈ ((keptA l).drop 31).flatten, placeB x = true := by
 have hv : ∀ p ∈ (keptA l).drop 31, validB p = true := fun p hp => hV p (keptA_sub (List.mem_of_mem_drop hp))
 refine ⟨hv, flat_ne hv fun e => ?_, flat_place hv⟩
 have := congrArg List.length e
 rw [List.length_drop] at this
 simp at this; omega
theorem tidy_valid {l : List (List Pt)} (hV : ∀ p ∈ l, validB p = true) : ∀ p ∈ tidyB l, validB p = true := by
 intro p hp
 unfold tidyB at hp
 split at hp
 ·exact hV p (keptA_sub hp)
 ·rename_i hn
  obtain ⟨h1, h2, h3⟩ := tidy_rest hV hn
  rcases List.mem_append.1 hp with h | h
  ·exact hV p (keptA_sub (List.mem_of_mem_take h))
  ·rw [List.mem_singleton.1 h]
   exact (oct_spec h2 h3).2.1
theorem tidy_len (l : List (List Pt)) : (tidyB l).length ≤ 32 := by
 unfold tidyB
 split
 ·assumption
 ·rw [List.length_append, List.length_take]; simp; omega
theorem lin_of_corners {p l : List Pt} (hp : validB p = true) {x : Pt} (hx : hasB p x = true) (h : ∀ y ∈ p, y ∈ l) : linIn l x := fun α β γ hall =>
 at_corners hp hx α β γ fun i hi => hall _ (h _ (gp_mem hi))
theorem tidy_has {l : List (List Pt)} (hV : ∀ p ∈ l, validB p = true) {x : Pt} (h : regB l x = true) : regB (tidyB l) x = true := by
 rw [← kept_has hV] at h
 unfold tidyB
 split
 ·exact h
 ·rename_i hn
  obtain ⟨h1, h2, h3⟩ := tidy_rest hV hn
  obtain ⟨p, hp, hx⟩ := regB_iff.1 h
  rw [← List.take_append_drop 31 (keptA l)] at hp
  rcases List.mem_append.1 hp with hp | hp
  ·exact regB_iff.2 ⟨p, List.mem_append.2 (.inl hp), hx⟩
  ·refine regB_iff.2 ⟨_, List.mem_append.2 (.inr (List.mem_singleton.2 rfl)), ?_⟩
   refine (oct_spec h2 h3).2.2.2.2 x (lin_b8 h2 (lin_of_corners (h1 p hp) hx fun y hy => List.mem_flatten.2 ⟨p, hp, hy⟩))
theorem tidy_few {l : List (List Pt)} (hV : ∀ p ∈ l, validB p = true) (hn : l.length ≤ 32) (x : Pt) : regB (tidyB l) x = regB l x := by
 unfold tidyB
 rw [if_pos (show (keptA l).length ≤ 32 from Nat.le_trans (keptL_len l l.length) hn)]
 exact kept_has hV x
theorem oct_eights {l : List (List Pt)} (hV : ∀ p ∈ l, validB p = true) (hne : l ≠ []) : octL (l.flatMap eightP) = octL l.flatten := by
 have e : b8 (l.flatMap eightP) = b8 l.flatten := by
  have n2 := flat_ne hV hne
  have n1 : l.flatMap eightP ≠ [] := by
   cases l with
   | nil => exact absurd rfl hne
   | cons p l =>
    intro e
    have := (len_one (eight_spec (hV p List.mem_cons_self)).2.1).1
    rw [List.flatMap_cons, List.append_eq_nil_iff] at e
    rw [e.1] at this; simp at this
  refine b8_ext (ne_len n1) (ne_len n2) (fun x hx => ?_) fun x hx => ?_
  ·obtain ⟨p, hp, hx⟩ := List.mem_flatMap.1 hx
   have s := eight_spec (hV p hp)
   refine b8_mono (len_one (hV p hp)).1 (ne_len n2) (fun z hz => b8_has (ne_len n2) z (List.mem_flatten.2 ⟨p, hp, hz⟩)) ?_
   rw [← s.2.2.2.1]; exact b8_has (len_one s.2.1).1 x hx
  ·obtain ⟨p, hp, hx⟩ := List.mem_flatten.1 hx
   have s := eight_spec (hV p hp)
   refine b8_mono (len_one s.2.1).1 (ne_len n1) (fun z hz => b8_has (ne_len n1) z (List.mem_flatMap.2 ⟨p, hp, hz⟩)) ?_
   rw [s.2.2.2.1]; exact b8_has (len_one (hV p hp)).1 x hx
 unfold octL
 rw [e]
end Go.Proofs.YtdfhnemhkpplbaaGreatDoor
namespace Go.Proofs.YtdfhnemhkpplbaaGreatDoor
open Go Go.V Go.RowKit
theorem ext_gp2 {ps qs : List Pt} (hl : ps.length = qs.length) (h : ∀ j, j < ps.length → gp ps j = gp qs j) : ps = qs := by
 refine List.ext_getElem hl fun i h1 h2 => ?_
 have := h i h1
 simpa [gp, h1, h2] using this
theorem SEqual_fn (v w : Value) (ps qs : List Pt) (M : Mem) (hv : Pts M v ps) (hw : Pts M w qs) : FnP Tryz.prog 121 [v, w] M [.bool (decide (ps = qs))] := by
 obtain ⟨ad, c, rfl⟩ := hv.shape
 obtain ⟨bd, d, rfl⟩ := hw.shape
 obtain ⟨_, hm, hrd⟩ := hv.cellsOf
 obtain ⟨_, hm', hrd'⟩ := hw.cellsOf
 unfold maxLen at hm hm'
 refine Fn.of_vc cxOK Tryz.func121 rfl rfl rfl ?_
 repeat (first | refine VIf.tt ?_ | refine VIf.ff ?_)
 refine VIf.mk (fun h => ?_) (fun h => ?_)
 ·have h := ne_of_bne h
  repeat (first | refine VIf.tt ?_ | refine VIf.ff ?_)
  refine VFact.mk ⟨?_, rfl⟩ trivial
  rw [decide_eq_false (fun e => h (by rw [e]))]
 have hl : ps.length = qs.length := eq_of_bne h
 repeat (first | refine VIf.tt ?_ | refine VIf.ff ?_)
 refine VCode.loop cxOK Nat (fun i => ⟨[(0, .v (.slice ad ps.length c)), (1, .v (.slice bd qs.length d)), (12, .v (.int .i64 ps.length)), (13, .v (.int .i64 i))], [], 0, M, 26, ⟨fun _ => none, none, fun _ => none⟩⟩)
  (fun i => i ≤ ps.length ∧ ∀ j, j < i → gp ps j = gp qs j) (fun i => ps.length - i) 0 ⟨Nat.zero_le _, fun j hj => by omega⟩ (Wk.mk' id (by repeat' constructor) (by repeat' constructor) (injOK_id _) rfl rfl rfl) ?_
 rintro i ⟨hi, hz⟩ m
 repeat (first | refine VIf.tt ?_ | refine VIf.ff ?_)
 refine VIf.mk (fun hlt => ?_) (fun hge => ?_)
 ·have hlt : i < ps.length := lt_of_dec hlt
  obtain ⟨a1, e1, r1⟩ := hrd M (Mem.le_refl _) i hlt
  obtain ⟨a2, e2, r2⟩ := hrd' M (Mem.le_refl _) i (by omega)
  repeat (first | refine VIf.tt ?_ | refine VIf.ff ?_)
  refine VDraw.go (by kernel_rfl) ?_
  repeat (first | refine VIf.tt ?_ | refine VIf.ff ?_)
  refine VIdx.mk a1 i e1 rfl hlt ?_
  repeat (first | refine VIf.tt ?_ | refine VIf.ff ?_)
  refine VReads.mk [.int .i64 (gp ps i).1, .int .i64 (gp ps i).2] rfl r1 ?_
  repeat (first | refine VIf.tt ?_ | refine VIf.ff ?_)
  refine VIdx.mk a2 i e2 rfl (by omega) ?_
  repeat (first | refine VIf.tt ?_ | refine VIf.ff ?_)
  refine VReads.mk [.int .i64 (gp qs i).1, .int .i64 (gp qs i).2] rfl r2 ?_
  repeat (first | refine VIf.tt ?_ | refine VIf.ff ?_)
  refine VIf.mk (fun hd => ?_) (fun hd => ?_)
  ·repeat (first | refine VIf.tt ?_ | refine VIf.ff ?_)
   refine VFact.mk ⟨?_, rfl⟩ trivial
   rw [decide_eq_false (fun e => by rw [e] at hd; simp [eqRes] at hd)]
  ·repeat (first | refine VIf.tt ?_ | refine VIf.ff ?_)
   refine VArith.ok (by first | omega | (simp only; omega)) (by first | omega | (simp only; omega)) ?_
   refine ⟨i + 1, ⟨hlt, fun j hj => ?_⟩, (by first | omega | (simp only; omega)), (Wk.mk' id (by repeat' constructor) (by repeat' constructor) (injOK_id _) rfl rfl rfl)⟩
   by_cases e : j = i
   ·subst e
    simp only [eqRes, Bool.not_eq_false', Bool.and_eq_true, beq_iff_eq] at hd
    exact Prod.ext hd.1 hd.2
   ·exact hz j (by omega)
 ·have : i = ps.length := by have := ge_of_dec hge; omega
  subst this
  repeat (first | refine VIf.tt ?_ | refine VIf.ff ?_)
  refine VFact.mk ⟨?_, rfl⟩ trivial
  rw [decide_eq_true (ext_gp2 hl hz)]
theorem covB_no {l : List (List Pt)} {i : Nat} (h : ∀ j, j < l.length → covIK l i j = false) : covB l i = false := by
 unfold covB
 exact List.any_eq_false.2 fun j hj => by rw [h j (List.mem_range.1 hj)]; decide
theorem covB_yes {l : List (List Pt)} {i k : Nat} (hk : k < l.length) (h : covIK l i k = true) : covB l i = true := by
 unfold covB
 exact List.any_eq_true.2 ⟨k, List.mem_range.2 hk, h⟩
theorem int_ne {k i : Nat} : ((k : Int) != (i : Int)) = decide (k ≠ i) := by
 rw [Bool.eq_iff_iff]; simp only [bne_iff_ne, ne_eq, decide_eq_true_eq]; omega
theorem int_lt {k i : Nat} : decide ((k : Int) < (i : Int)) = decide (k < i) := decide_eq_decide.2 (by omega)
set_option maxHeartbeats 2000000 in
theorem covered_fn (B : Nat) (v : Value) (l : List (List Pt)) (i : Nat) (M : Mem) (hB : M B = some (.cells #[v] 79 (0, 0))) (hv : RegV M v l) (hV : ∀ p ∈ l, validB p = true) (hi : i < l.length) :
  V.Fn Tryz.prog 99 [.pointer (some ⟨B, 0, none⟩), .int .i64 i] M fun rs _ => rs = [.bool (covB l i)] := by
 obtain ⟨ad, c, rfl, hm, hrd⟩ := hv.get
 refine Fn.of_vc cxOK Tryz.func99 rfl rfl rfl ?_
 repeat (first | refine VIf.tt ?_ | refine VIf.ff ?_)
 refine VRead.mk (.slice ad l.length c) (cellAt hB 0 rfl) ?_
 repeat (first | refine VIf.tt ?_ | refine VIf.ff ?_)
 refine VCode.loop cxOK (Nat × Mem) (fun (⟨k, M1⟩ : Nat × Mem) => ⟨[(0, .v (.pointer (some ⟨B, 0, none⟩))), (1, .v (.int .i64 i)), (13, .v (.slice ad l.length c)), (14, .v (.int .i64 l.length)), (15, .v (.int .i64 k))], [], 0, M1, 58, ⟨fun _ => none, none, fun _ => none⟩⟩)
  (fun (⟨k, M1⟩ : Nat × Mem) => (M.le M1 ∧ k ≤ l.length) ∧ ∀ j, j < k → covIK l i j = false) (fun (⟨k, _⟩ : Nat × Mem) => l.length - k) (0, M) ⟨⟨Mem.le_refl _, Nat.zero_le _⟩, fun j hj => absurd hj (Nat.not_lt_zero _)⟩ (Wk.mk' id (by repeat' constructor) (by repeat' constructor) (injOK_id _) rfl rfl rfl) ?_
 rintro ⟨k, M1⟩ ⟨⟨hM1, hk⟩, hz⟩ m
 repeat (first | refine VIf.tt ?_ | refine VIf.ff ?_)
 refine VIf.mk (fun hlt => ?_) (fun hge => ?_)
 rotate_left
 ·have : k = l.length := by have := ge_of_dec hge; omega
  subst this
  repeat (first | refine VIf.tt ?_ | refine VIf.ff ?_)
  refine VFact.mk ?_ trivial
  rw [covB_no hz]
 have hlt : k < l.length := lt_of_dec hlt
 obtain ⟨a1, w1, e1, p1, q1, c1⟩ := hrd M1 hM1 k hlt
 obtain ⟨a2, w2, e2, p2, q2, c2⟩ := hrd M1 hM1 i hi
 repeat (first | refine VIf.tt ?_ | refine VIf.ff ?_)
 refine VIdx.mk a1 k e1 rfl hlt ?_
 repeat (first | refine VIf.tt ?_ | refine VIf.ff ?_)
 refine VRead.mk w1 c1 ?_
 repeat (first | refine VIf.tt ?_ | refine VIf.ff ?_)
 refine VRead.mk (.slice ad l.length c) (cellAt (hM1 _ _ hB) 0 rfl) ?_
 repeat (first | refine VIf.tt ?_ | refine VIf.ff ?_)
 refine VIdx.mk a2 i e2 rfl hi ?_
 repeat (first | refine VIf.tt ?_ | refine VIf.ff ?_)
 refine VRead.mk w2 c2 ?_
 repeat (first | refine VIf.tt ?_ | refine VIf.ff ?_)
 refine VFn.mk _ (Within_fn w2 w1 (gr l i) (gr l k) M1 p2 p1 q2 q1) ?_
 rintro rs M2 hM2 rfl
 rw [val_gr hV hi, val_gr hV hlt]
 have m2 := hM1.trans hM2
 have c3 := Mem.cell_le hM2 c2
 repeat (first | refine VIf.tt ?_ | refine VIf.ff ?_)
 refine VIf.mk (fun hne => ?_) (fun hne => ?_)
 rotate_left
 ·repeat (first | refine VIf.tt ?_ | refine VIf.ff ?_)
  rw [int_ne] at hne
  repeat (first | refine VIf.tt ?_ | refine VIf.ff ?_)
  refine VArith.ok (by first | omega | (simp only; omega)) (by first | omega | (simp only; omega)) ?_
  refine ⟨(k + 1, M2), ⟨⟨m2, hlt⟩, fun j hj => ?_⟩, (by first | omega | (simp only; omega)), (Wk.mk' id (by repeat' constructor) (by repeat' constructor) (injOK_id _) rfl rfl rfl)⟩
  by_cases ej : j = k
  ·subst ej
   unfold covIK
   rw [hne, Bool.false_and, Bool.false_and]
  ·exact hz j (by omega)
 repeat (first | refine VIf.tt ?_ | refine VIf.ff ?_)
 rw [int_ne] at hne
 repeat (first | refine VIf.tt ?_ | refine VIf.ff ?_)
 refine VIf.mk (fun hw => ?_) (fun hw => ?_)
 rotate_left
 ·repeat (first | refine VIf.tt ?_ | refine VIf.ff ?_)
  have hw : withinB (gr l i) (gr l k) = false := hw
  repeat (first | refine VIf.tt ?_ | refine VIf.ff ?_)
  refine VArith.ok (by first | omega | (simp only; omega)) (by first | omega | (simp only; omega)) ?_
  refine ⟨(k + 1, M2), ⟨⟨m2, hlt⟩, fun j hj => ?_⟩, (by first | omega | (simp only; omega)), (Wk.mk' id (by repeat' constructor) (by repeat' constructor) (injOK_id _) rfl rfl rfl)⟩
  by_cases ej : j = k
  ·subst ej
   unfold covIK
   rw [hw, Bool.and_false, Bool.false_and]
  ·exact hz j (by omega)
 repeat (first | refine VIf.tt ?_ | refine VIf.ff ?_)
 have hw : withinB (gr l i) (gr l k) = true := hw
 repeat (first | refine VIf.tt ?_ | refine VIf.ff ?_)
 refine VIf.mk (fun hl => ?_) (fun hl => ?_)
 ·repeat (first | refine VIf.tt ?_ | refine VIf.ff ?_)
  rw [int_lt] at hl
  repeat (first | refine VIf.tt ?_ | refine VIf.ff ?_)
  refine VFact.mk ?_ trivial
  rw [covB_yes hlt (by unfold covIK; rw [hne, hw, hl]; rfl)]
 repeat (first | refine VIf.tt ?_ | refine VIf.ff ?_)
 rw [int_lt] at hl
 repeat (first | refine VIf.tt ?_ | refine VIf.ff ?_)
 refine VRead.mk (.slice ad l.length c) (cellAt (m2 _ _ hB) 0 rfl) ?_
 repeat (first | refine VIf.tt ?_ | refine VIf.ff ?_)
 refine VIdx.mk a2 i e2 rfl hi ?_
 repeat (first | refine VIf.tt ?_ | refine VIf.ff ?_)
 refine VRead.mk w2 c3 ?_
 repeat (first | refine VIf.tt ?_ | refine VIf.ff ?_)
 refine VFn.p (SEqual_fn w2 w1 _ _ M2 (p2.le hM2) (p1.le hM2)) ?_
 repeat (first | refine VIf.tt ?_ | refine VIf.ff ?_)
 repeat (first | refine VIf.tt ?_ | refine VIf.ff ?_)
 refine VIf.mk (fun he => ?_) (fun he => ?_)
 ·repeat (first | refine VIf.tt ?_ | refine VIf.ff ?_)
  refine VFact.mk ?_ trivial
  have he : (!decide (gr l i = gr l k)) = true := he
  rw [covB_yes hlt (by unfold covIK; rw [hne, hw, he, Bool.or_true]; rfl)]
 ·have he : (!decide (gr l i = gr l k)) = false := he
  repeat (first | refine VIf.tt ?_ | refine VIf.ff ?_)
  refine VArith.ok (by first | omega | (simp only; omega)) (by first | omega | (simp only; omega)) ?_
  refine ⟨(k + 1, M2), ⟨⟨m2, hlt⟩, fun j hj => ?_⟩, (by first | omega | (simp only; omega)), (Wk.mk' id (by repeat' constructor) (by repeat' constructor) (injOK_id _) rfl rfl rfl)⟩
  by_cases ej : j = k
  ·subst ej
   unfold covIK
   rw [hl, he, Bool.or_false, Bool.and_false]
  ·exact hz j (by omega)
end Go.Proofs.YtdfhnemhkpplbaaGreatDoor
