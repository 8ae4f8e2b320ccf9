import Derived.Test.YtlppfikkgcfaoaaHa5
set_option linter.unusedVariables false
set_option linter.unusedSimpArgs false
/- Contracts of package ray: leaves, rays, what lies between two. -/
namespace Go.Proofs.Ytlppfikkgcfaoaa
open Go Go.V Go.RowKit
def vecB (v : Pt) : Bool := decide (-1000000 ≤ v.1 ∧ v.1 ≤ 1000000 ∧ -1000000 ≤ v.2 ∧ v.2 ≤ 1000000) && !(v.1 == 0 && v.2 == 0)
def isV (v : Pt) : Prop := -1000000 ≤ v.1 ∧ v.1 ≤ 1000000 ∧ -1000000 ≤ v.2 ∧ v.2 ≤ 1000000
theorem vec_V {v : Pt} (h : vecB v = true) : isV v := by
  simp only [vecB, Bool.and_eq_true, decide_eq_true_eq] at h
  exact h.1
theorem rotN_V {v : Pt} (h : isV v) : ∀ n, isV (rotN n v)
  | 0 => h
  | n + 1 => by
    have := rotN_V h n
    unfold isV at *
    simp only [rotN, rotL]
    omega
def tblT : Bool := (List.range 16).all fun k => decide (-1000 ≤ (gp tblR k).1 ∧ (gp tblR k).1 ≤ 1000 ∧ -1000 ≤ (gp tblR k).2 ∧ (gp tblR k).2 ≤ 1000)
theorem tblT_ok : tblT = true := by decide +kernel
def isR (v : Pt) : Prop := -1000 ≤ v.1 ∧ v.1 ≤ 1000 ∧ -1000 ≤ v.2 ∧ v.2 ≤ 1000
theorem rotN_R {v : Pt} (h : isR v) : ∀ n, isR (rotN n v)
  | 0 => h
  | n + 1 => by
    have := rotN_R h n
    unfold isR at *
    simp only [rotN, rotL]
    omega
theorem tbl_R {k : Nat} (h : k < 16) : isR (gp tblR k) := by
  have := tblT_ok
  simp only [tblT, List.all_eq_true, List.mem_range, decide_eq_true_eq] at this
  exact this k h
theorem ray_R (k : Nat) : isR (rayP k) := rotN_R (tbl_R (Nat.mod_lt _ (by decide))) _
theorem R_V {v : Pt} (h : isR v) : isV v := by unfold isR at h; unfold isV; omega
theorem crossRay_fn (a b : Pt) (M : Mem) (ha : isV a) (hb : isV b) : FnP Try.prog 65 [ptv a, ptv b] M [.int .i64 (crs a b)] := by
  obtain ⟨h1, h2, h3, h4⟩ := ha
  obtain ⟨k1, k2, k3, k4⟩ := hb
  have e1 := mul_bd (a := a.1) (b := b.2) 1000000 1000000 (by omega) (by omega) (by omega) (by omega) (by omega) (by omega)
  have e2 := mul_bd (a := a.2) (b := b.1) 1000000 1000000 (by omega) (by omega) (by omega) (by omega) (by omega) (by omega)
  refine Fn.of_vc cxOK Try.func65 rfl rfl rfl ?_
  repeat (first | refine VIf.tt ?_ | refine VIf.ff ?_)
  refine VArith.ok (by first | omega | (simp only; omega)) (by first | omega | (simp only; omega)) ?_
  repeat (first | refine VIf.tt ?_ | refine VIf.ff ?_)
  refine VArith.ok (by first | omega | (simp only; omega)) (by first | omega | (simp only; omega)) ?_
  repeat (first | refine VIf.tt ?_ | refine VIf.ff ?_)
  refine VArith.ok (by first | omega | (simp only; omega)) (by first | omega | (simp only; omega)) ?_
  repeat (first | refine VIf.tt ?_ | refine VIf.ff ?_)
  exact VFact.mk ⟨rfl, rfl⟩ trivial
theorem inRay_fn (n : Int) (M : Mem) : FnP Try.prog 95 [.int .i64 n] M [.bool (decide (-1000000 ≤ n ∧ n ≤ 1000000))] := by
  refine Fn.of_vc cxOK Try.func95 rfl rfl rfl ?_
  repeat' (first | refine VIf.tt ?_ | refine VIf.ff ?_ | refine VIf.mk (fun _ => ?_) (fun _ => ?_) | refine VFact.mk ?_ trivial)
  all_goals (refine ⟨bool1 ?_, rfl⟩; simp only [Bool.and_eq_true, decide_eq_true_eq, decide_eq_false_iff_not, Bool.false_eq_true, false_iff] at *; omega)
theorem isVector_fn (v : Pt) (M : Mem) : FnP Try.prog 63 [ptv v] M [.bool (vecB v)] := by
  refine Fn.of_vc cxOK Try.func63 rfl rfl rfl ?_
  repeat (first | refine VIf.tt ?_ | refine VIf.ff ?_)
  refine VFn.p (inRay_fn v.1 M) ?_
  repeat (first | refine VIf.tt ?_ | refine VIf.ff ?_)
  refine VIf.mk (fun h1 => ?_) (fun h1 => ?_)
  · repeat (first | refine VIf.tt ?_ | refine VIf.ff ?_)
    refine VFn.p (inRay_fn v.2 M) ?_
    repeat (first | refine VIf.tt ?_ | refine VIf.ff ?_)
    repeat (first | refine VIf.tt ?_ | refine VIf.ff ?_)
    refine VIf.mk (fun h2 => ?_) (fun h2 => ?_)
    · repeat (first | refine VIf.tt ?_ | refine VIf.ff ?_)
      refine VFact.mk ⟨?_, rfl⟩ trivial
      have h1 := of_decide_eq_true h1
      have h2 := of_decide_eq_true h2
      unfold vecB
      rw [decide_eq_true ⟨h1.1, h1.2, h2.1, h2.2⟩]; rfl
    · repeat (first | refine VIf.tt ?_ | refine VIf.ff ?_)
      refine VFact.mk ⟨?_, rfl⟩ trivial
      have h2 := of_decide_eq_false h2
      unfold vecB
      rw [decide_eq_false (by omega)]; rfl
  · repeat (first | refine VIf.tt ?_ | refine VIf.ff ?_)
    repeat (first | refine VIf.tt ?_ | refine VIf.ff ?_)
    refine VFact.mk ⟨?_, rfl⟩ trivial
    have h1 := of_decide_eq_false h1
    unfold vecB
    rw [decide_eq_false (by omega)]; rfl
theorem areRays_fn (a n : Int) (M : Mem) : FnP Try.prog 67 [.int .i64 a, .int .i64 n] M [.bool (decide (0 ≤ a ∧ a < 64 ∧ 0 ≤ n ∧ n < 32))] := by
  refine Fn.of_vc cxOK Try.func67 rfl rfl rfl ?_
  repeat' (first | refine VIf.tt ?_ | refine VIf.ff ?_ | refine VIf.mk (fun _ => ?_) (fun _ => ?_) | refine VFact.mk ?_ trivial)
  all_goals (refine ⟨bool1 ?_, rfl⟩; simp only [Bool.and_eq_true, decide_eq_true_eq, decide_eq_false_iff_not, Bool.false_eq_true, false_iff] at *; omega)
theorem isOn_fn (t v : Pt) (M : Mem) (ht : isV t) (hv : isV v) : FnP Try.prog 66 [ptv t, ptv v] M [.bool (decide (crs t v = 0) && decide (0 < dot2 t v))] := by
  have ht' := ht
  have hv' := hv
  obtain ⟨h1, h2, h3, h4⟩ := ht
  obtain ⟨k1, k2, k3, k4⟩ := hv
  have e1 := mul_bd (a := t.1) (b := v.1) 1000000 1000000 (by omega) (by omega) (by omega) (by omega) (by omega) (by omega)
  have e2 := mul_bd (a := t.2) (b := v.2) 1000000 1000000 (by omega) (by omega) (by omega) (by omega) (by omega) (by omega)
  refine Fn.of_vc cxOK Try.func66 rfl rfl rfl ?_
  repeat (first | refine VIf.tt ?_ | refine VIf.ff ?_)
  refine VFn.p (crossRay_fn t v M ht' hv') ?_
  repeat (first | refine VIf.tt ?_ | refine VIf.ff ?_)
  refine VIf.mk (fun h => ?_) (fun h => ?_)
  · repeat (first | refine VIf.tt ?_ | refine VIf.ff ?_)
    refine VArith.ok (by first | omega | (simp only; omega)) (by first | omega | (simp only; omega)) ?_
    repeat (first | refine VIf.tt ?_ | refine VIf.ff ?_)
    refine VArith.ok (by first | omega | (simp only; omega)) (by first | omega | (simp only; omega)) ?_
    repeat (first | refine VIf.tt ?_ | refine VIf.ff ?_)
    refine VArith.ok (by first | omega | (simp only; omega)) (by first | omega | (simp only; omega)) ?_
    repeat (first | refine VIf.tt ?_ | refine VIf.ff ?_)
    repeat (first | refine VIf.tt ?_ | refine VIf.ff ?_)
    refine VFact.mk ⟨?_, rfl⟩ trivial
    rw [decide_eq_true (beq_iff_eq.1 h), Bool.true_and]; rfl
  · repeat (first | refine VIf.tt ?_ | refine VIf.ff ?_)
    repeat (first | refine VIf.tt ?_ | refine VIf.ff ?_)
    refine VFact.mk ⟨?_, rfl⟩ trivial
    rw [decide_eq_false (by simpa using h)]; rfl
theorem left_fn (x : Pt) (n : Nat) (M : Mem) (hx : isR x) : FnP Try.prog 97 [ptv x, .int .i64 n] M [ptv (rotN (n % 4) x)] := by
  have e4 : ((n : Int).tmod 4) = ((n % 4 : Nat) : Int) := by rw [Int.tmod_eq_emod_of_nonneg (by omega)]; simp
  refine Fn.of_vc cxOK Try.func97 rfl rfl rfl ?_
  repeat (first | refine VIf.tt ?_ | refine VIf.ff ?_)
  refine VDiv.mk (by omega) ?_
  repeat (first | refine VIf.tt ?_ | refine VIf.ff ?_)
  refine VCode.loop cxOK Nat (fun i => ⟨[(2, .box 0 0), (4, .box 1 0), (6, .v (.int .i64 ((n : Int).tmod 4))), (7, .v (.int .i64 i))], [(1, some (.box 30 [.v (.int .i64 0), .v (.int .i64 0)])), (0, some (.box 30 [.v (.int .i64 (rotN i x).1), .v (.int .i64 (rotN i x).2)]))], 2, M, 17, ⟨fun _ => none, none, fun _ => none⟩⟩)
    (fun i => i ≤ n % 4) (fun i => n % 4 - i) 0 (Nat.zero_le _) (Wk.mk' id (by repeat' constructor) (by repeat' constructor) (injOK_id _) rfl rfl rfl) ?_
  intro i hi m
  have hR := rotN_R hx i
  unfold isR at hR
  repeat (first | refine VIf.tt ?_ | refine VIf.ff ?_)
  refine VIf.mk (fun hlt => ?_) (fun hge => ?_)
  · have hlt : i < n % 4 := by have := of_decide_eq_true hlt; omega
    repeat (first | refine VIf.tt ?_ | refine VIf.ff ?_)
    refine VArith.ok (by first | omega | (simp only; omega)) (by first | omega | (simp only; omega)) ?_
    repeat (first | refine VIf.tt ?_ | refine VIf.ff ?_)
    refine VArith.ok (by first | omega | (simp only; omega)) (by first | omega | (simp only; omega)) ?_
    exact ⟨i + 1, hlt, (by first | omega | (simp only; omega)), (Wk.mk' id (by repeat' constructor) (by repeat' constructor) (injOK_id _) rfl rfl rfl)⟩
  · have : i = n % 4 := by have := of_decide_eq_false hge; omega
    subst this
    repeat (first | refine VIf.tt ?_ | refine VIf.ff ?_)
    exact VFact.mk ⟨rfl, rfl⟩ trivial
set_option maxRecDepth 20000 in
set_option maxHeartbeats 4000000 in
theorem atRay_fn (k : Nat) (M : Mem) (hk : k < 1000) : FnP Try.prog 68 [.int .i64 k] M [ptv (rayP k)] := by
  refine Fn.of_vc cxOK Try.func68 rfl rfl rfl ?_
  repeat (first | refine VIf.tt ?_ | refine VIf.ff ?_)
  refine VDiv.mk (by decide) ?_
  rcases (by omega : k % 16 = 0 ∨ k % 16 = 1 ∨ k % 16 = 2 ∨ k % 16 = 3 ∨ k % 16 = 4 ∨ k % 16 = 5 ∨ k % 16 = 6 ∨ k % 16 = 7 ∨ k % 16 = 8 ∨ k % 16 = 9 ∨ k % 16 = 10 ∨ k % 16 = 11 ∨ k % 16 = 12 ∨ k % 16 = 13 ∨ k % 16 = 14 ∨ k % 16 = 15) with h | h | h | h | h | h | h | h | h | h | h | h | h | h | h | h
  · obtain ⟨q, hq⟩ : ∃ q, k = 16 * q + 0 := ⟨k / 16, by omega⟩
    subst hq
    repeat (first | refine VIf.tt ?_ | refine VIf.ff ?_)
    refine VIdxR.mk 0 (by rw [Int.tmod_eq_emod_of_nonneg (by omega)]; omega) (by decide) ?_
    repeat (first | refine VIf.tt ?_ | refine VIf.ff ?_)
    refine VDiv.mk (by omega) ?_
    have ed : ((16 * q + 0 : Nat) : Int).tdiv 16 = (q : Int) := by rw [Int.tdiv_eq_ediv_of_nonneg (by omega)]; omega
    repeat (first | refine VIf.tt ?_ | refine VIf.ff ?_)
    refine VArith.ok (by rw [ed]; omega) (by rw [ed]; omega) ?_
    have F := left_fn (gp tblR 0) q M (tbl_R (by decide))
    rw [← ed] at F
    repeat (first | refine VIf.tt ?_ | refine VIf.ff ?_)
    refine VFn.p F ?_
    repeat (first | refine VIf.tt ?_ | refine VIf.ff ?_)
    refine VFact.mk ⟨?_, rfl⟩ trivial
    unfold rayP
    rw [show (16 * q + 0) / 16 % 4 = q % 4 by omega, show (16 * q + 0) % 16 = 0 by omega]; rfl
  · obtain ⟨q, hq⟩ : ∃ q, k = 16 * q + 1 := ⟨k / 16, by omega⟩
    subst hq
    repeat (first | refine VIf.tt ?_ | refine VIf.ff ?_)
    refine VIdxR.mk 1 (by rw [Int.tmod_eq_emod_of_nonneg (by omega)]; omega) (by decide) ?_
    repeat (first | refine VIf.tt ?_ | refine VIf.ff ?_)
    refine VDiv.mk (by omega) ?_
    have ed : ((16 * q + 1 : Nat) : Int).tdiv 16 = (q : Int) := by rw [Int.tdiv_eq_ediv_of_nonneg (by omega)]; omega
    repeat (first | refine VIf.tt ?_ | refine VIf.ff ?_)
    refine VArith.ok (by rw [ed]; omega) (by rw [ed]; omega) ?_
    have F := left_fn (gp tblR 1) q M (tbl_R (by decide))
    rw [← ed] at F
    repeat (first | refine VIf.tt ?_ | refine VIf.ff ?_)
    refine VFn.p F ?_
    repeat (first | refine VIf.tt ?_ | refine VIf.ff ?_)
    refine VFact.mk ⟨?_, rfl⟩ trivial
    unfold rayP
    rw [show (16 * q + 1) / 16 % 4 = q % 4 by omega, show (16 * q + 1) % 16 = 1 by omega]; rfl
  · obtain ⟨q, hq⟩ : ∃ q, k = 16 * q + 2 := ⟨k / 16, by omega⟩
    subst hq
    repeat (first | refine VIf.tt ?_ | refine VIf.ff ?_)
    refine VIdxR.mk 2 (by rw [Int.tmod_eq_emod_of_nonneg (by omega)]; omega) (by decide) ?_
    repeat (first | refine VIf.tt ?_ | refine VIf.ff ?_)
    refine VDiv.mk (by omega) ?_
    have ed : ((16 * q + 2 : Nat) : Int).tdiv 16 = (q : Int) := by rw [Int.tdiv_eq_ediv_of_nonneg (by omega)]; omega
    repeat (first | refine VIf.tt ?_ | refine VIf.ff ?_)
    refine VArith.ok (by rw [ed]; omega) (by rw [ed]; omega) ?_
    have F := left_fn (gp tblR 2) q M (tbl_R (by decide))
    rw [← ed] at F
    repeat (first | refine VIf.tt ?_ | refine VIf.ff ?_)
    refine VFn.p F ?_
    repeat (first | refine VIf.tt ?_ | refine VIf.ff ?_)
    refine VFact.mk ⟨?_, rfl⟩ trivial
    unfold rayP
    rw [show (16 * q + 2) / 16 % 4 = q % 4 by omega, show (16 * q + 2) % 16 = 2 by omega]; rfl
  · obtain ⟨q, hq⟩ : ∃ q, k = 16 * q + 3 := ⟨k / 16, by omega⟩
    subst hq
    repeat (first | refine VIf.tt ?_ | refine VIf.ff ?_)
    refine VIdxR.mk 3 (by rw [Int.tmod_eq_emod_of_nonneg (by omega)]; omega) (by decide) ?_
    repeat (first | refine VIf.tt ?_ | refine VIf.ff ?_)
    refine VDiv.mk (by omega) ?_
    have ed : ((16 * q + 3 : Nat) : Int).tdiv 16 = (q : Int) := by rw [Int.tdiv_eq_ediv_of_nonneg (by omega)]; omega
    repeat (first | refine VIf.tt ?_ | refine VIf.ff ?_)
    refine VArith.ok (by rw [ed]; omega) (by rw [ed]; omega) ?_
    have F := left_fn (gp tblR 3) q M (tbl_R (by decide))
    rw [← ed] at F
    repeat (first | refine VIf.tt ?_ | refine VIf.ff ?_)
    refine VFn.p F ?_
    repeat (first | refine VIf.tt ?_ | refine VIf.ff ?_)
    refine VFact.mk ⟨?_, rfl⟩ trivial
    unfold rayP
    rw [show (16 * q + 3) / 16 % 4 = q % 4 by omega, show (16 * q + 3) % 16 = 3 by omega]; rfl
  · obtain ⟨q, hq⟩ : ∃ q, k = 16 * q + 4 := ⟨k / 16, by omega⟩
    subst hq
    repeat (first | refine VIf.tt ?_ | refine VIf.ff ?_)
    refine VIdxR.mk 4 (by rw [Int.tmod_eq_emod_of_nonneg (by omega)]; omega) (by decide) ?_
    repeat (first | refine VIf.tt ?_ | refine VIf.ff ?_)
    refine VDiv.mk (by omega) ?_
    have ed : ((16 * q + 4 : Nat) : Int).tdiv 16 = (q : Int) := by rw [Int.tdiv_eq_ediv_of_nonneg (by omega)]; omega
    repeat (first | refine VIf.tt ?_ | refine VIf.ff ?_)
    refine VArith.ok (by rw [ed]; omega) (by rw [ed]; omega) ?_
    have F := left_fn (gp tblR 4) q M (tbl_R (by decide))
    rw [← ed] at F
    repeat (first | refine VIf.tt ?_ | refine VIf.ff ?_)
    refine VFn.p F ?_
    repeat (first | refine VIf.tt ?_ | refine VIf.ff ?_)
    refine VFact.mk ⟨?_, rfl⟩ trivial
    unfold rayP
    rw [show (16 * q + 4) / 16 % 4 = q % 4 by omega, show (16 * q + 4) % 16 = 4 by omega]; rfl
  · obtain ⟨q, hq⟩ : ∃ q, k = 16 * q + 5 := ⟨k / 16, by omega⟩
    subst hq
    repeat (first | refine VIf.tt ?_ | refine VIf.ff ?_)
    refine VIdxR.mk 5 (by rw [Int.tmod_eq_emod_of_nonneg (by omega)]; omega) (by decide) ?_
    repeat (first | refine VIf.tt ?_ | refine VIf.ff ?_)
    refine VDiv.mk (by omega) ?_
    have ed : ((16 * q + 5 : Nat) : Int).tdiv 16 = (q : Int) := by rw [Int.tdiv_eq_ediv_of_nonneg (by omega)]; omega
    repeat (first | refine VIf.tt ?_ | refine VIf.ff ?_)
    refine VArith.ok (by rw [ed]; omega) (by rw [ed]; omega) ?_
    have F := left_fn (gp tblR 5) q M (tbl_R (by decide))
    rw [← ed] at F
    repeat (first | refine VIf.tt ?_ | refine VIf.ff ?_)
    refine VFn.p F ?_
    repeat (first | refine VIf.tt ?_ | refine VIf.ff ?_)
    refine VFact.mk ⟨?_, rfl⟩ trivial
    unfold rayP
    rw [show (16 * q + 5) / 16 % 4 = q % 4 by omega, show (16 * q + 5) % 16 = 5 by omega]; rfl
  · obtain ⟨q, hq⟩ : ∃ q, k = 16 * q + 6 := ⟨k / 16, by omega⟩
    subst hq
    repeat (first | refine VIf.tt ?_ | refine VIf.ff ?_)
    refine VIdxR.mk 6 (by rw [Int.tmod_eq_emod_of_nonneg (by omega)]; omega) (by decide) ?_
    repeat (first | refine VIf.tt ?_ | refine VIf.ff ?_)
    refine VDiv.mk (by omega) ?_
    have ed : ((16 * q + 6 : Nat) : Int).tdiv 16 = (q : Int) := by rw [Int.tdiv_eq_ediv_of_nonneg (by omega)]; omega
    repeat (first | refine VIf.tt ?_ | refine VIf.ff ?_)
    refine VArith.ok (by rw [ed]; omega) (by rw [ed]; omega) ?_
    have F := left_fn (gp tblR 6) q M (tbl_R (by decide))
    rw [← ed] at F
    repeat (first | refine VIf.tt ?_ | refine VIf.ff ?_)
    refine VFn.p F ?_
    repeat (first | refine VIf.tt ?_ | refine VIf.ff ?_)
    refine VFact.mk ⟨?_, rfl⟩ trivial
    unfold rayP
    rw [show (16 * q + 6) / 16 % 4 = q % 4 by omega, show (16 * q + 6) % 16 = 6 by omega]; rfl
  · obtain ⟨q, hq⟩ : ∃ q, k = 16 * q + 7 := ⟨k / 16, by omega⟩
    subst hq
    repeat (first | refine VIf.tt ?_ | refine VIf.ff ?_)
    refine VIdxR.mk 7 (by rw [Int.tmod_eq_emod_of_nonneg (by omega)]; omega) (by decide) ?_
    repeat (first | refine VIf.tt ?_ | refine VIf.ff ?_)
    refine VDiv.mk (by omega) ?_
    have ed : ((16 * q + 7 : Nat) : Int).tdiv 16 = (q : Int) := by rw [Int.tdiv_eq_ediv_of_nonneg (by omega)]; omega
    repeat (first | refine VIf.tt ?_ | refine VIf.ff ?_)
    refine VArith.ok (by rw [ed]; omega) (by rw [ed]; omega) ?_
    have F := left_fn (gp tblR 7) q M (tbl_R (by decide))
    rw [← ed] at F
    repeat (first | refine VIf.tt ?_ | refine VIf.ff ?_)
    refine VFn.p F ?_
    repeat (first | refine VIf.tt ?_ | refine VIf.ff ?_)
    refine VFact.mk ⟨?_, rfl⟩ trivial
    unfold rayP
    rw [show (16 * q + 7) / 16 % 4 = q % 4 by omega, show (16 * q + 7) % 16 = 7 by omega]; rfl
  · obtain ⟨q, hq⟩ : ∃ q, k = 16 * q + 8 := ⟨k / 16, by omega⟩
    subst hq
    repeat (first | refine VIf.tt ?_ | refine VIf.ff ?_)
    refine VIdxR.mk 8 (by rw [Int.tmod_eq_emod_of_nonneg (by omega)]; omega) (by decide) ?_
    repeat (first | refine VIf.tt ?_ | refine VIf.ff ?_)
    refine VDiv.mk (by omega) ?_
    have ed : ((16 * q + 8 : Nat) : Int).tdiv 16 = (q : Int) := by rw [Int.tdiv_eq_ediv_of_nonneg (by omega)]; omega
    repeat (first | refine VIf.tt ?_ | refine VIf.ff ?_)
    refine VArith.ok (by rw [ed]; omega) (by rw [ed]; omega) ?_
    have F := left_fn (gp tblR 8) q M (tbl_R (by decide))
    rw [← ed] at F
    repeat (first | refine VIf.tt ?_ | refine VIf.ff ?_)
    refine VFn.p F ?_
    repeat (first | refine VIf.tt ?_ | refine VIf.ff ?_)
    refine VFact.mk ⟨?_, rfl⟩ trivial
    unfold rayP
    rw [show (16 * q + 8) / 16 % 4 = q % 4 by omega, show (16 * q + 8) % 16 = 8 by omega]; rfl
  · obtain ⟨q, hq⟩ : ∃ q, k = 16 * q + 9 := ⟨k / 16, by omega⟩
    subst hq
    repeat (first | refine VIf.tt ?_ | refine VIf.ff ?_)
    refine VIdxR.mk 9 (by rw [Int.tmod_eq_emod_of_nonneg (by omega)]; omega) (by decide) ?_
    repeat (first | refine VIf.tt ?_ | refine VIf.ff ?_)
    refine VDiv.mk (by omega) ?_
    have ed : ((16 * q + 9 : Nat) : Int).tdiv 16 = (q : Int) := by rw [Int.tdiv_eq_ediv_of_nonneg (by omega)]; omega
    repeat (first | refine VIf.tt ?_ | refine VIf.ff ?_)
    refine VArith.ok (by rw [ed]; omega) (by rw [ed]; omega) ?_
    have F := left_fn (gp tblR 9) q M (tbl_R (by decide))
    rw [← ed] at F
    repeat (first | refine VIf.tt ?_ | refine VIf.ff ?_)
    refine VFn.p F ?_
    repeat (first | refine VIf.tt ?_ | refine VIf.ff ?_)
    refine VFact.mk ⟨?_, rfl⟩ trivial
    unfold rayP
    rw [show (16 * q + 9) / 16 % 4 = q % 4 by omega, show (16 * q + 9) % 16 = 9 by omega]; rfl
  · obtain ⟨q, hq⟩ : ∃ q, k = 16 * q + 10 := ⟨k / 16, by omega⟩
    subst hq
    repeat (first | refine VIf.tt ?_ | refine VIf.ff ?_)
    refine VIdxR.mk 10 (by rw [Int.tmod_eq_emod_of_nonneg (by omega)]; omega) (by decide) ?_
    repeat (first | refine VIf.tt ?_ | refine VIf.ff ?_)
    refine VDiv.mk (by omega) ?_
    have ed : ((16 * q + 10 : Nat) : Int).tdiv 16 = (q : Int) := by rw [Int.tdiv_eq_ediv_of_nonneg (by omega)]; omega
    repeat (first | refine VIf.tt ?_ | refine VIf.ff ?_)
    refine VArith.ok (by rw [ed]; omega) (by rw [ed]; omega) ?_
    have F := left_fn (gp tblR 10) q M (tbl_R (by decide))
    rw [← ed] at F
    repeat (first | refine VIf.tt ?_ | refine VIf.ff ?_)
    refine VFn.p F ?_
    repeat (first | refine VIf.tt ?_ | refine VIf.ff ?_)
    refine VFact.mk ⟨?_, rfl⟩ trivial
    unfold rayP
    rw [show (16 * q + 10) / 16 % 4 = q % 4 by omega, show (16 * q + 10) % 16 = 10 by omega]; rfl
  · obtain ⟨q, hq⟩ : ∃ q, k = 16 * q + 11 := ⟨k / 16, by omega⟩
    subst hq
    repeat (first | refine VIf.tt ?_ | refine VIf.ff ?_)
    refine VIdxR.mk 11 (by rw [Int.tmod_eq_emod_of_nonneg (by omega)]; omega) (by decide) ?_
    repeat (first | refine VIf.tt ?_ | refine VIf.ff ?_)
    refine VDiv.mk (by omega) ?_
    have ed : ((16 * q + 11 : Nat) : Int).tdiv 16 = (q : Int) := by rw [Int.tdiv_eq_ediv_of_nonneg (by omega)]; omega
    repeat (first | refine VIf.tt ?_ | refine VIf.ff ?_)
    refine VArith.ok (by rw [ed]; omega) (by rw [ed]; omega) ?_
    have F := left_fn (gp tblR 11) q M (tbl_R (by decide))
    rw [← ed] at F
    repeat (first | refine VIf.tt ?_ | refine VIf.ff ?_)
    refine VFn.p F ?_
    repeat (first | refine VIf.tt ?_ | refine VIf.ff ?_)
    refine VFact.mk ⟨?_, rfl⟩ trivial
    unfold rayP
    rw [show (16 * q + 11) / 16 % 4 = q % 4 by omega, show (16 * q + 11) % 16 = 11 by omega]; rfl
  · obtain ⟨q, hq⟩ : ∃ q, k = 16 * q + 12 := ⟨k / 16, by omega⟩
    subst hq
    repeat (first | refine VIf.tt ?_ | refine VIf.ff ?_)
    refine VIdxR.mk 12 (by rw [Int.tmod_eq_emod_of_nonneg (by omega)]; omega) (by decide) ?_
    repeat (first | refine VIf.tt ?_ | refine VIf.ff ?_)
    refine VDiv.mk (by omega) ?_
    have ed : ((16 * q + 12 : Nat) : Int).tdiv 16 = (q : Int) := by rw [Int.tdiv_eq_ediv_of_nonneg (by omega)]; omega
    repeat (first | refine VIf.tt ?_ | refine VIf.ff ?_)
    refine VArith.ok (by rw [ed]; omega) (by rw [ed]; omega) ?_
    have F := left_fn (gp tblR 12) q M (tbl_R (by decide))
    rw [← ed] at F
    repeat (first | refine VIf.tt ?_ | refine VIf.ff ?_)
    refine VFn.p F ?_
    repeat (first | refine VIf.tt ?_ | refine VIf.ff ?_)
    refine VFact.mk ⟨?_, rfl⟩ trivial
    unfold rayP
    rw [show (16 * q + 12) / 16 % 4 = q % 4 by omega, show (16 * q + 12) % 16 = 12 by omega]; rfl
  · obtain ⟨q, hq⟩ : ∃ q, k = 16 * q + 13 := ⟨k / 16, by omega⟩
    subst hq
    repeat (first | refine VIf.tt ?_ | refine VIf.ff ?_)
    refine VIdxR.mk 13 (by rw [Int.tmod_eq_emod_of_nonneg (by omega)]; omega) (by decide) ?_
    repeat (first | refine VIf.tt ?_ | refine VIf.ff ?_)
    refine VDiv.mk (by omega) ?_
    have ed : ((16 * q + 13 : Nat) : Int).tdiv 16 = (q : Int) := by rw [Int.tdiv_eq_ediv_of_nonneg (by omega)]; omega
    repeat (first | refine VIf.tt ?_ | refine VIf.ff ?_)
    refine VArith.ok (by rw [ed]; omega) (by rw [ed]; omega) ?_
    have F := left_fn (gp tblR 13) q M (tbl_R (by decide))
    rw [← ed] at F
    repeat (first | refine VIf.tt ?_ | refine VIf.ff ?_)
    refine VFn.p F ?_
    repeat (first | refine VIf.tt ?_ | refine VIf.ff ?_)
    refine VFact.mk ⟨?_, rfl⟩ trivial
    unfold rayP
    rw [show (16 * q + 13) / 16 % 4 = q % 4 by omega, show (16 * q + 13) % 16 = 13 by omega]; rfl
  · obtain ⟨q, hq⟩ : ∃ q, k = 16 * q + 14 := ⟨k / 16, by omega⟩
    subst hq
    repeat (first | refine VIf.tt ?_ | refine VIf.ff ?_)
    refine VIdxR.mk 14 (by rw [Int.tmod_eq_emod_of_nonneg (by omega)]; omega) (by decide) ?_
    repeat (first | refine VIf.tt ?_ | refine VIf.ff ?_)
    refine VDiv.mk (by omega) ?_
    have ed : ((16 * q + 14 : Nat) : Int).tdiv 16 = (q : Int) := by rw [Int.tdiv_eq_ediv_of_nonneg (by omega)]; omega
    repeat (first | refine VIf.tt ?_ | refine VIf.ff ?_)
    refine VArith.ok (by rw [ed]; omega) (by rw [ed]; omega) ?_
    have F := left_fn (gp tblR 14) q M (tbl_R (by decide))
    rw [← ed] at F
    repeat (first | refine VIf.tt ?_ | refine VIf.ff ?_)
    refine VFn.p F ?_
    repeat (first | refine VIf.tt ?_ | refine VIf.ff ?_)
    refine VFact.mk ⟨?_, rfl⟩ trivial
    unfold rayP
    rw [show (16 * q + 14) / 16 % 4 = q % 4 by omega, show (16 * q + 14) % 16 = 14 by omega]; rfl
  · obtain ⟨q, hq⟩ : ∃ q, k = 16 * q + 15 := ⟨k / 16, by omega⟩
    subst hq
    repeat (first | refine VIf.tt ?_ | refine VIf.ff ?_)
    refine VIdxR.mk 15 (by rw [Int.tmod_eq_emod_of_nonneg (by omega)]; omega) (by decide) ?_
    repeat (first | refine VIf.tt ?_ | refine VIf.ff ?_)
    refine VDiv.mk (by omega) ?_
    have ed : ((16 * q + 15 : Nat) : Int).tdiv 16 = (q : Int) := by rw [Int.tdiv_eq_ediv_of_nonneg (by omega)]; omega
    repeat (first | refine VIf.tt ?_ | refine VIf.ff ?_)
    refine VArith.ok (by rw [ed]; omega) (by rw [ed]; omega) ?_
    have F := left_fn (gp tblR 15) q M (tbl_R (by decide))
    rw [← ed] at F
    repeat (first | refine VIf.tt ?_ | refine VIf.ff ?_)
    refine VFn.p F ?_
    repeat (first | refine VIf.tt ?_ | refine VIf.ff ?_)
    refine VFact.mk ⟨?_, rfl⟩ trivial
    unfold rayP
    rw [show (16 * q + 15) / 16 % 4 = q % 4 by omega, show (16 * q + 15) % 16 = 15 by omega]; rfl
end Go.Proofs.Ytlppfikkgcfaoaa

/- Contracts of tide: the search for a flow, what holds in a block and a slot. -/
namespace Go.Proofs.Ytlppfikkgcfaoaa
open Go Go.V Go.RowKit
def Srt (l : List FlowS) : Prop := ∀ j i, i < j → j < l.length → cmpF (gf l i) (gf l j) < 0
theorem srt_lo {l : List FlowS} (hs : Srt l) {k : FlowS} {h : Nat} (hh : h < l.length) (hc : cmpF (gf l h) k < 0) : ∀ i, i ≤ h → cmpF (gf l i) k < 0 := fun i hi => by
  by_cases e : i = h
  · rw [e]; exact hc
  · have := hs h i (by omega) hh
    rw [cmpF_lt] at this hc ⊢
    omega
theorem srt_hi {l : List FlowS} (hs : Srt l) {k : FlowS} {h : Nat} (hc : ¬ cmpF (gf l h) k < 0) : ∀ i, h ≤ i → i < l.length → ¬ cmpF (gf l i) k < 0 := fun i hi hn => by
  by_cases e : i = h
  · rw [e]; exact hc
  · have := hs i h (by omega) hn
    rw [cmpF_lt] at this hc ⊢
    omega
theorem half_eq (a : Int) : Int.fdiv a (2 ^ min (Int.toNat 1) (IntKind.bits .u64)) = a / 2 := by
  show Int.fdiv a 2 = a / 2
  exact Int.fdiv_eq_ediv_of_nonneg a (by omega)
set_option maxRecDepth 20000 in
set_option maxHeartbeats 2000000 in
theorem search_fn (v : Value) (l : List FlowS) (k : FlowS) (M : Mem) (hv : FlsV M v l) (hs : Srt l) (hn : l.length ≤ 4000) : V.Fn Try.prog 89 [v, flV k, .func (.func 81) #[] #[]] M
    fun rs _ => ∃ (i : Int) (b : Bool), rs = [.int .i64 i, .bool b] ∧ (b = true → ∃ n : Nat, i = n ∧ n < l.length ∧ cmpF (gf l n) k = 0) ∧ (b = false → ∀ n, n < l.length → cmpF (gf l n) k ≠ 0) := by
  obtain ⟨ad, c, rfl, hm, hrd⟩ := hv.get
  refine Fn.of_vc cxOK Try.func89 rfl rfl rfl ?_
  repeat (first | refine VIf.tt ?_ | refine VIf.ff ?_)
  refine VCode.loop cxOK (Int × Int × Mem) (fun s => ⟨[(0, .v (.slice ad l.length c)), (2, .v (.func (.func 81) #[] #[])), (4, .box 0 0), (8, .v (.int .i64 l.length)), (9, .v (.int .i64 s.1)), (10, .v (.int .i64 s.2.1))],
      [(0, some (.box 25 [.v (.int .i64 k.x), .v (.int .i64 k.y), .v (.int .i64 k.s), .v (.int .i64 k.ul), .v (.int .i64 k.uh), .v (.int .i64 k.vl), .v (.int .i64 k.vh), .v (.int .i64 k.hl), .v (.int .i64 k.hh)]))], 1, s.2.2, 49, ⟨fun _ => none, none, fun _ => none⟩⟩)
    (fun s => M.le s.2.2 ∧ 0 ≤ s.1 ∧ s.1 ≤ s.2.1 ∧ s.2.1 ≤ l.length ∧ (∀ n : Nat, n < s.1 → cmpF (gf l n) k < 0) ∧ ∀ n : Nat, s.2.1 ≤ n → n < l.length → ¬ cmpF (gf l n) k < 0)
    (fun s => (s.2.1 - s.1).toNat) (0, l.length, M) ⟨Mem.le_refl _, Int.le_refl _, by simp, Int.le_refl _, fun n h => by simp only at h; omega, fun n h h' => by simp only at h; omega⟩ (Wk.mk' id (by repeat' constructor) (by repeat' constructor) (injOK_id _) rfl rfl rfl) ?_
  rintro ⟨i, j, M1⟩ ⟨hM1, h0, hij, hj, hlo, hhi⟩ m
  have hM1 : M.le M1 := hM1
  have h0 : 0 ≤ i := h0
  have hij : i ≤ j := hij
  have hj : j ≤ l.length := hj
  have hlo : ∀ n : Nat, n < i → cmpF (gf l n) k < 0 := hlo
  have hhi : ∀ n : Nat, j ≤ n → n < l.length → ¬ cmpF (gf l n) k < 0 := hhi
  repeat (first | refine VIf.tt ?_ | refine VIf.ff ?_)
  refine VIf.mk (fun hlt => ?_) (fun hge => ?_)
  · have hlt : i < j := of_decide_eq_true hlt
    have hh := half_eq (i + j)
    repeat (first | refine VIf.tt ?_ | refine VIf.ff ?_)
    refine VArith.ok (by first | omega | (simp only; omega)) (by first | omega | (simp only; omega)) ?_
    repeat (first | refine VIf.tt ?_ | refine VIf.ff ?_)
    refine VArith.ok (by first | omega | (simp only; omega)) (by first | omega | (simp only; omega)) ?_
    refine VSh.mk (by omega) ?_
    repeat (first | refine VIf.tt ?_ | refine VIf.ff ?_)
    refine VArith.ok (by simp only; omega) (by simp only; omega) ?_
    repeat (first | refine VIf.tt ?_ | refine VIf.ff ?_)
    refine VDraw.go (by kernel_rfl) ?_
    obtain ⟨h, eh⟩ : ∃ h : Nat, (i + j) / 2 = h := ⟨((i + j) / 2).toNat, by omega⟩
    have hhl : h < l.length := by omega
    obtain ⟨ad', ead, hr⟩ := hrd M1 hM1 h hhl
    repeat (first | refine VIf.tt ?_ | refine VIf.ff ?_)
    refine VIdx.mk ad' h ead (by simp only; omega) hhl ?_
    repeat (first | refine VIf.tt ?_ | refine VIf.ff ?_)
    refine VReads.mk (flC (gf l h)) rfl hr ?_
    repeat (first | refine VIf.tt ?_ | refine VIf.ff ?_)
    refine VFn.mk _ (compareF_fn (gf l h) k M1) ?_
    rintro rs M2 hM2 rfl
    repeat (first | refine VIf.tt ?_ | refine VIf.ff ?_)
    refine VIf.mk (fun hc => ?_) (fun hc => ?_)
    · have hc := of_decide_eq_true hc
      repeat (first | refine VIf.tt ?_ | refine VIf.ff ?_)
      refine VArith.ok (by simp only; omega) (by simp only; omega) ?_
      refine ⟨(Int.fdiv (i + j) (2 ^ min (Int.toNat 1) (IntKind.bits .u64)) + 1, j, M2), ⟨hM1.trans hM2, ?_, ?_, hj, ?_, hhi⟩, ?_, (Wk.mk' id (by repeat' constructor) (by repeat' constructor) (injOK_id _) rfl rfl rfl)⟩
      · simp only; omega
      · simp only; omega
      · intro n hn
        simp only at hn
        exact srt_lo hs hhl hc n (by omega)
      · simp only; omega
    · have hc := of_decide_eq_false hc
      refine ⟨(i, Int.fdiv (i + j) (2 ^ min (Int.toNat 1) (IntKind.bits .u64)), M2), ⟨hM1.trans hM2, h0, ?_, ?_, hlo, ?_⟩, ?_, (Wk.mk' id (by repeat' constructor) (by repeat' constructor) (injOK_id _) rfl rfl rfl)⟩
      · simp only; omega
      · simp only; omega
      · intro n hn hn'
        simp only at hn
        exact srt_hi hs hc n (by omega) hn'
      · simp only; omega
  · have hge : ¬ i < j := of_decide_eq_false hge
    have hge : j ≤ i := by omega
    repeat (first | refine VIf.tt ?_ | refine VIf.ff ?_)
    refine VDraw.go (by kernel_rfl) ?_
    repeat (first | refine VIf.tt ?_ | refine VIf.ff ?_)
    refine VIf.mk (fun hl => ?_) (fun hl => ?_)
    · have hl : i < l.length := of_decide_eq_true hl
      obtain ⟨h, rfl⟩ : ∃ h : Nat, i = h := ⟨i.toNat, by omega⟩
      have hhl : h < l.length := by omega
      obtain ⟨ad', ead, hr⟩ := hrd M1 hM1 h hhl
      repeat (first | refine VIf.tt ?_ | refine VIf.ff ?_)
      refine VIdx.mk ad' h ead rfl hhl ?_
      repeat (first | refine VIf.tt ?_ | refine VIf.ff ?_)
      refine VReads.mk (flC (gf l h)) rfl hr ?_
      repeat (first | refine VIf.tt ?_ | refine VIf.ff ?_)
      refine VFn.mk _ (compareF_fn (gf l h) k M1) ?_
      rintro rs M2 hM2 rfl
      repeat (first | refine VIf.tt ?_ | refine VIf.ff ?_)
      refine VFact.mk ⟨h, _, rfl, fun e => ⟨h, rfl, hhl, eq_of_beq e⟩, fun e n hn hz => ?_⟩ trivial
      have e := beq_eq_false_iff_ne.1 e
      rcases Nat.lt_trichotomy n h with c | c | c
      · have := hlo n (by omega); omega
      · subst c; exact e hz
      · have h1 := hs n h c hn
        have h2 := hhi h hge hhl
        rw [cmpF_lt] at h1 h2
        rw [cmpF_eq] at hz
        omega
    · have hl : ¬ i < l.length := of_decide_eq_false hl
      repeat (first | refine VIf.tt ?_ | refine VIf.ff ?_)
      refine VFact.mk ⟨i, _, rfl, (fun e => Bool.noConfusion e), fun _ n hn hz => ?_⟩ trivial
      have := hlo n (by omega); omega
end Go.Proofs.Ytlppfikkgcfaoaa

/- Contracts of tide: what holds in a block and a slot; at a place and a time; blocks of a rectangle. -/
namespace Go.Proofs.Ytlppfikkgcfaoaa
open Go Go.V Go.RowKit
set_option maxRecDepth 20000 in
set_option maxHeartbeats 2000000 in
theorem of_fn (t : TideS) (v : Value) (x y s : Int) (M : Mem) (hv : FlsV M v t.fl) (ht : tideB t = true) : V.Fn Try.prog 53 [tdV t v, .int .i64 x, .int .i64 y, .int .i64 s] M fun rs _ => rs = [flV (ofB t x y s)] := by
  obtain ⟨ad, c, rfl, hm, hrd⟩ := hv.get
  refine Fn.of_vc cxOK Try.func53 rfl rfl rfl ?_
  repeat (first | refine VIf.tt ?_ | refine VIf.ff ?_)
  refine VFn.mk _ (search_fn _ t.fl ⟨x, y, s, 0, 0, 0, 0, 0, 0⟩ M hv (tide_lt ht) (tide_get ht).1.2.2.2.2.2.2.1) ?_
  rintro rs M1 hM1 ⟨i, b, rfl, hT, hF⟩
  repeat (first | refine VIf.tt ?_ | refine VIf.ff ?_)
  refine VIf.mk (fun hb => ?_) (fun hb => ?_)
  · obtain ⟨n, rfl, hn, hc⟩ := hT hb
    obtain ⟨ad', ead, hr⟩ := hrd M1 hM1 n hn
    repeat (first | refine VIf.tt ?_ | refine VIf.ff ?_)
    refine VIdx.mk ad' n ead rfl hn ?_
    repeat (first | refine VIf.tt ?_ | refine VIf.ff ?_)
    refine VReads.mk (flC (gf t.fl n)) rfl hr ?_
    repeat (first | refine VIf.tt ?_ | refine VIf.ff ?_)
    refine VFact.mk ?_ trivial
    have hk : isKey x y s (gf t.fl n) = true := by
      have := (cmpF_eq _ _).1 hc
      simp only [isKey, decide_eq_true_eq]; exact this
    rw [ofB, find_at ht hn hk]; rfl
  · repeat (first | refine VIf.tt ?_ | refine VIf.ff ?_)
    refine VFact.mk ?_ trivial
    have : t.fl.find? (isKey x y s) = none := List.find?_eq_none.2 fun f hf => by
      obtain ⟨n, hn, rfl⟩ := gf_mem hf
      have := hF hb n hn
      intro hk
      simp only [isKey, decide_eq_true_eq] at hk
      exact this ((cmpF_eq _ _).2 hk)
    rw [ofB, this]; rfl
theorem isCb_bd {n : Int} (h : isCb n = true) : -500000 ≤ n ∧ n ≤ 500000 := by simpa [isCb] using h
set_option maxRecDepth 20000 in
set_option maxHeartbeats 2000000 in
theorem At_fn (t : TideS) (v : Value) (x y n : Int) (M : Mem) (hv : FlsV M v t.fl) : V.Fn Try.prog 17 [tdV t v, pt x y, .int .i64 n] M fun rs _ =>
    rs = if (tideB t && placeB (x, y) && decide (0 ≤ n ∧ n ≤ 1000000000)) = true then [flV (ofB t (x / 10000) (y / 10000) ((n - t.fr) / 3600)), .int .i64 0] else [flV zeroF, .int .i64 1] := by
  have hv' := hv
  obtain ⟨ad, c, rfl, hm, hrd⟩ := hv.get
  refine Fn.of_vc cxOK Try.func17 rfl rfl rfl ?_
  repeat (first | refine VIf.tt ?_ | refine VIf.ff ?_)
  refine VFn.mk _ (validT_fn t _ M hv') ?_
  rintro rs M1 hM1 rfl
  repeat (first | refine VIf.tt ?_ | refine VIf.ff ?_)
  refine VIf.mk (fun e1 => ?_) (fun e1 => ?_)
  · repeat (first | refine VIf.tt ?_ | refine VIf.ff ?_)
    refine VFact.mk ?_ trivial
    rw [show tideB t = false by simpa using e1]; rfl
  have ht : tideB t = true := by simpa using e1
  repeat (first | refine VIf.tt ?_ | refine VIf.ff ?_)
  refine VFn.p (tidePlace_fn x y M1) ?_
  repeat (first | refine VIf.tt ?_ | refine VIf.ff ?_)
  refine VIf.mk (fun e2 => ?_) (fun e2 => ?_)
  · repeat (first | refine VIf.tt ?_ | refine VIf.ff ?_)
    refine VFact.mk ?_ trivial
    rw [show placeB (x, y) = false from (Bool.not_eq_true' _).mp e2, Bool.and_false]; rfl
  have hP : placeB (x, y) = true := by
    show (isCb x && isCb y) = true
    simpa using e2
  repeat (first | refine VIf.tt ?_ | refine VIf.ff ?_)
  refine VFn.p (isTime_fn n M1) ?_
  repeat (first | refine VIf.tt ?_ | refine VIf.ff ?_)
  refine VIf.mk (fun e3 => ?_) (fun e3 => ?_)
  · repeat (first | refine VIf.tt ?_ | refine VIf.ff ?_)
    refine VFact.mk ?_ trivial
    rw [(Bool.not_eq_true' _).mp e3, Bool.and_false]; rfl
  have hn : 0 ≤ n ∧ n ≤ 1000000000 := of_decide_eq_true ((Bool.not_eq_false' _).mp e3)
  have hp := hP
  simp only [placeB, Bool.and_eq_true] at hp
  have h1 := isCb_bd hp.1
  have h2 := isCb_bd hp.2
  have h3 := (tide_get ht).1
  repeat (first | refine VIf.tt ?_ | refine VIf.ff ?_)
  refine VFn.p (block_fn x y M1 (by omega) (by omega) (by omega) (by omega)) ?_
  repeat (first | refine VIf.tt ?_ | refine VIf.ff ?_)
  refine VDraw.go (by kernel_rfl) ?_
  repeat (first | refine VIf.tt ?_ | refine VIf.ff ?_)
  refine VArith.ok (by first | omega | (simp only; omega)) (by first | omega | (simp only; omega)) ?_
  repeat (first | refine VIf.tt ?_ | refine VIf.ff ?_)
  refine VFn.p (down_fn (n - t.fr) 3600 M1 (by omega) (by omega) (by omega) (by omega)) ?_
  repeat (first | refine VIf.tt ?_ | refine VIf.ff ?_)
  refine VFn.mk _ (of_fn t _ (x / 10000) (y / 10000) ((n - t.fr) / 3600) M1 (hv'.le hM1) ht) ?_
  rintro rs M2 hM2 rfl
  repeat (first | refine VIf.tt ?_ | refine VIf.ff ?_)
  refine VFact.mk ?_ trivial
  rw [ht, hP, decide_eq_true hn]; rfl
def rng (a b : Int) : List Int := (List.range (b - a + 1).toNat).map fun (k : Nat) => a + (k : Int)
theorem rng_mem {a b x : Int} : x ∈ rng a b ↔ a ≤ x ∧ x ≤ b := by
  unfold rng
  simp only [List.mem_map, List.mem_range]
  constructor
  · rintro ⟨k, hk, rfl⟩; omega
  · intro h; exact ⟨(x - a).toNat, by omega, by omega⟩
theorem rng_cons {a b : Int} (h : a ≤ b) : rng a b = a :: rng (a + 1) b := by
  unfold rng
  have e : (b - a + 1).toNat = (b - (a + 1) + 1).toNat + 1 := by omega
  rw [e, List.range_succ_eq_map, List.map_cons, List.map_map]
  refine congr (congrArg List.cons (by simp)) (List.map_congr_left fun k _ => ?_)
  simp only [Function.comp]; omega
theorem rng_nil {a b : Int} (h : b < a) : rng a b = [] := by
  unfold rng
  have e : (b - a + 1).toNat = 0 := by omega
  rw [e]; rfl
def rowL (t : TideS) (x1 x2 y s : Int) : List FlowS := (rng x1 x2).map fun x => ofB t x y s
def blkL (t : TideS) (x1 x2 y1 y2 s : Int) : List FlowS := (rng y1 y2).flatMap fun y => rowL t x1 x2 y s
theorem row_cons {t : TideS} {x1 x2 y s : Int} (h : x1 ≤ x2) : rowL t x1 x2 y s = ofB t x1 y s :: rowL t (x1 + 1) x2 y s := by unfold rowL; rw [rng_cons h]; rfl
theorem row_nil {t : TideS} {x1 x2 y s : Int} (h : x2 < x1) : rowL t x1 x2 y s = [] := by unfold rowL; rw [rng_nil h]; rfl
theorem blk_cons {t : TideS} {x1 x2 y1 y2 s : Int} (h : y1 ≤ y2) : blkL t x1 x2 y1 y2 s = rowL t x1 x2 y1 s ++ blkL t x1 x2 (y1 + 1) y2 s := by unfold blkL; rw [rng_cons h]; rfl
theorem blk_nil {t : TideS} {x1 x2 y1 y2 s : Int} (h : y2 < y1) : blkL t x1 x2 y1 y2 s = [] := by unfold blkL; rw [rng_nil h]; rfl
theorem blk_mem {t : TideS} {x1 x2 y1 y2 s : Int} {g : FlowS} : g ∈ blkL t x1 x2 y1 y2 s ↔ inB t x1 x2 y1 y2 s s g := by
  unfold blkL rowL inB
  simp only [List.mem_flatMap, List.mem_map, rng_mem]
  constructor
  · rintro ⟨y, hy, x, hx, rfl⟩
    exact ⟨x, y, s, hx.1, hx.2, hy.1, hy.2, Int.le_refl _, Int.le_refl _, rfl⟩
  · rintro ⟨x, y, s', a1, a2, a3, a4, a5, a6, rfl⟩
    obtain rfl : s' = s := by omega
    exact ⟨y, ⟨a3, a4⟩, x, ⟨a1, a2⟩, rfl⟩
end Go.Proofs.Ytlppfikkgcfaoaa

/- Contracts of tide: the blocks of a rectangle. -/
namespace Go.Proofs.Ytlppfikkgcfaoaa
open Go Go.V Go.RowKit
def tdC (t : TideS) (v : Value) : Array Value := #[.int .i64 t.ver, .int .i64 t.fr, .int .i64 t.sl, .int .i64 t.rest.x, .int .i64 t.rest.y, .int .i64 t.rest.s, .int .i64 t.rest.ul, .int .i64 t.rest.uh, .int .i64 t.rest.vl, .int .i64 t.rest.vh, .int .i64 t.rest.hl, .int .i64 t.rest.hh, v]
theorem blocks_fn (t : TideS) (v : Value) (x1 y1 x2 y2 s : Int) (M : Mem) (hv : FlsV M v t.fl) : V.Fn Try.prog 50 [tdV t v, pt x1 y1, pt x2 y2, .int .i64 s] M fun rs M' => ∃ B1 B2 B0 B3,
    rs = [.func (.func 87) #[] #[.pointer (some ⟨B1, 0, none⟩), .pointer (some ⟨B2, 0, none⟩), .pointer (some ⟨B0, 0, none⟩), .pointer (some ⟨B3, 0, none⟩)]] ∧
    M' B1 = some (.cells #[.int .i64 x1, .int .i64 y1] 30 (0, 0)) ∧ M' B2 = some (.cells #[.int .i64 x2, .int .i64 y2] 30 (0, 0)) ∧ M' B0 = some (.cells (tdC t v) 28 (0, 0)) ∧ M' B3 = some (.cells #[.int .i64 s] 3 (0, 0)) := by
  obtain ⟨ad, c, rfl, hm, hrd⟩ := hv.get
  refine Fn.of_vc cxOK Try.func50 rfl rfl rfl ?_
  repeat (first | refine VIf.tt ?_ | refine VIf.ff ?_)
  refine VFzB.mk fun z1 B1 M1 hM1 hB1 => ?_
  repeat (first | refine VIf.tt ?_ | refine VIf.ff ?_)
  refine VFzB.mk fun z2 B2 M2 hM2 hB2 => ?_
  repeat (first | refine VIf.tt ?_ | refine VIf.ff ?_)
  refine VFzB.mk fun z3 B3 M3 hM3 hB3 => ?_
  repeat (first | refine VIf.tt ?_ | refine VIf.ff ?_)
  refine VFzB.mk fun z4 B4 M4 hM4 hB4 => ?_
  repeat (first | refine VIf.tt ?_ | refine VIf.ff ?_)
  exact VFact.mk ⟨B1, B2, B3, B4, rfl, hM4 _ _ (hM3 _ _ (hM2 _ _ hB1)), hM4 _ _ (hM3 _ _ hB2), hM4 _ _ hB3, hB4⟩ trivial
set_option maxRecDepth 20000 in
set_option maxHeartbeats 2000000 in
theorem blocks_iter (t : TideS) (v : Value) (x1 y1 x2 y2 s : Int) (M : Mem) (hv : FlsV M v t.fl) (ht : tideB t = true) (h1 : placeB (x1, y1) = true) (h2 : placeB (x2, y2) = true) (B1 B2 B0 B3 : Nat)
    (hB1 : M B1 = some (.cells #[.int .i64 x1, .int .i64 y1] 30 (0, 0))) (hB2 : M B2 = some (.cells #[.int .i64 x2, .int .i64 y2] 30 (0, 0))) (hB0 : M B0 = some (.cells (tdC t v) 28 (0, 0))) (hB3 : M B3 = some (.cells #[.int .i64 s] 3 (0, 0))) :
    Iter Try.prog 87 #[.pointer (some ⟨B1, 0, none⟩), .pointer (some ⟨B2, 0, none⟩), .pointer (some ⟨B0, 0, none⟩), .pointer (some ⟨B3, 0, none⟩)] M ((blkL t (x1 / 10000) (x2 / 10000) (y1 / 10000) (y2 / 10000) s).map fun f => [flV f]) := by
  simp only [placeB, Bool.and_eq_true] at h1 h2
  have a1 := isCb_bd h1.1
  have a2 := isCb_bd h1.2
  have a3 := isCb_bd h2.1
  have a4 := isCb_bd h2.2
  refine Iter.of_vc cxOK Try.func87 rfl rfl rfl rfl fun l => ?_
  repeat (first | refine VIf.tt ?_ | refine VIf.ff ?_)
  refine VDraw.code ?_
  repeat (first | refine VIf.tt ?_ | refine VIf.ff ?_)
  refine VCode.drawsG cxOK [] (by kernel_rfl) (fun m => m = fun _ => none) Unit
    (fun _ => ⟨[(0, .v (.func (.yield l) #[] #[])), (3, .v (.pointer (some ⟨B0, 0, none⟩))), (4, .v (.pointer (some ⟨B3, 0, none⟩))), (6, .box 0 0), (7, .box 1 0)],
      [(1, some (.box 30 [.v (.int .i64 (x2 / 10000)), .v (.int .i64 (y2 / 10000))])), (0, some (.box 30 [.v (.int .i64 (x1 / 10000)), .v (.int .i64 (y1 / 10000))]))], 2, M, 38, ⟨fun _ => none, some (l, (blkL t (x1 / 10000) (x2 / 10000) (y1 / 10000) (y2 / 10000) s).map fun f => [flV f]), fun _ => none⟩⟩)
    (fun _ => True) ?_ ?_
  · repeat (first | refine VIf.tt ?_ | refine VIf.ff ?_)
    refine VReads.mk [.int .i64 x1, .int .i64 y1] rfl (fun j v hj => cellAt hB1 j (by simpa using hj)) ?_
    repeat (first | refine VIf.tt ?_ | refine VIf.ff ?_)
    refine VReads.mk [.int .i64 x2, .int .i64 y2] rfl (fun j v hj => cellAt hB2 j (by simpa using hj)) ?_
    have b1 := block_fn x1 y1 M (by omega) (by omega) (by omega) (by omega)
    have b2 := block_fn x2 y2 M (by omega) (by omega) (by omega) (by omega)
    refine VBoth.mk ?_ ?_
    · repeat (first | refine VIf.tt ?_ | refine VIf.ff ?_)
      refine VFn.p b1 ?_
      repeat (first | refine VIf.tt ?_ | refine VIf.ff ?_)
      refine VFact.mk (Mem.le_refl _) ?_
      refine VBoth.mk ?_ ?_
      · repeat (first | refine VIf.tt ?_ | refine VIf.ff ?_)
        refine VFn.p b2 ?_
        repeat (first | refine VIf.tt ?_ | refine VIf.ff ?_)
        refine VFact.mk (Mem.le_refl _) ?_
        refine VBoth.mk ?_ ?_
        · repeat (first | refine VIf.tt ?_ | refine VIf.ff ?_)
          refine VFact.mk (Mem.le_refl _) ?_
          repeat (first | refine VIf.tt ?_ | refine VIf.ff ?_)
          refine VFact.mk (Mem.le_refl _) ?_
          repeat (first | refine VIf.tt ?_ | refine VIf.ff ?_)
          refine VFact.mk (Mem.le_refl _) ?_
          repeat (first | refine VIf.tt ?_ | refine VIf.ff ?_)
          refine VFact.mk (Mem.le_refl _) ?_
          exact ⟨rfl, (), trivial, (Wk.mk' id (by repeat' constructor) (by repeat' constructor) (injOK_id _) rfl rfl rfl)⟩
        · repeat (first | refine VIf.tt ?_ | refine VIf.ff ?_)
          refine VFact.mk (Mem.le_refl _) ?_
          repeat (first | refine VIf.tt ?_ | refine VIf.ff ?_)
          refine VFact.mk (Mem.le_refl _) ?_
          repeat (first | refine VIf.tt ?_ | refine VIf.ff ?_)
          refine VFact.mk (Mem.le_refl _) ?_
          repeat (first | refine VIf.tt ?_ | refine VIf.ff ?_)
          refine VFact.mk (Mem.le_refl _) ?_
          exact ⟨rfl, (), trivial, Wk.mk' (fun k => if k = 0 then 1 else if k = 1 then 0 else k) (by repeat' constructor) (by repeat' constructor) (by simp [injOK]) rfl rfl rfl⟩
      · refine VBoth.mk ?_ ?_
        · repeat (first | refine VIf.tt ?_ | refine VIf.ff ?_)
          refine VFact.mk (Mem.le_refl _) ?_
          refine VBoth.mk ?_ ?_
          · repeat (first | refine VIf.tt ?_ | refine VIf.ff ?_)
            refine VFn.p b2 ?_
            repeat (first | refine VIf.tt ?_ | refine VIf.ff ?_)
            refine VFact.mk (Mem.le_refl _) ?_
            repeat (first | refine VIf.tt ?_ | refine VIf.ff ?_)
            refine VFact.mk (Mem.le_refl _) ?_
            repeat (first | refine VIf.tt ?_ | refine VIf.ff ?_)
            refine VFact.mk (Mem.le_refl _) ?_
            repeat (first | refine VIf.tt ?_ | refine VIf.ff ?_)
            refine VFact.mk (Mem.le_refl _) ?_
            exact ⟨rfl, (), trivial, (Wk.mk' id (by repeat' constructor) (by repeat' constructor) (injOK_id _) rfl rfl rfl)⟩
          · repeat (first | refine VIf.tt ?_ | refine VIf.ff ?_)
            refine VFact.mk (Mem.le_refl _) ?_
            repeat (first | refine VIf.tt ?_ | refine VIf.ff ?_)
            refine VFn.p b2 ?_
            repeat (first | refine VIf.tt ?_ | refine VIf.ff ?_)
            refine VFact.mk (Mem.le_refl _) ?_
            repeat (first | refine VIf.tt ?_ | refine VIf.ff ?_)
            refine VFact.mk (Mem.le_refl _) ?_
            repeat (first | refine VIf.tt ?_ | refine VIf.ff ?_)
            refine VFact.mk (Mem.le_refl _) ?_
            exact ⟨rfl, (), trivial, (Wk.mk' id (by repeat' constructor) (by repeat' constructor) (injOK_id _) rfl rfl rfl)⟩
        · repeat (first | refine VIf.tt ?_ | refine VIf.ff ?_)
          refine VFact.mk (Mem.le_refl _) ?_
          refine VBoth.mk ?_ ?_
          · repeat (first | refine VIf.tt ?_ | refine VIf.ff ?_)
            refine VFn.p b2 ?_
            repeat (first | refine VIf.tt ?_ | refine VIf.ff ?_)
            refine VFact.mk (Mem.le_refl _) ?_
            repeat (first | refine VIf.tt ?_ | refine VIf.ff ?_)
            refine VFact.mk (Mem.le_refl _) ?_
            repeat (first | refine VIf.tt ?_ | refine VIf.ff ?_)
            refine VFact.mk (Mem.le_refl _) ?_
            repeat (first | refine VIf.tt ?_ | refine VIf.ff ?_)
            refine VFact.mk (Mem.le_refl _) ?_
            exact ⟨rfl, (), trivial, Wk.mk' (fun k => if k = 0 then 1 else if k = 1 then 0 else k) (by repeat' constructor) (by repeat' constructor) (by simp [injOK]) rfl rfl rfl⟩
          · repeat (first | refine VIf.tt ?_ | refine VIf.ff ?_)
            refine VFact.mk (Mem.le_refl _) ?_
            repeat (first | refine VIf.tt ?_ | refine VIf.ff ?_)
            refine VFn.p b2 ?_
            repeat (first | refine VIf.tt ?_ | refine VIf.ff ?_)
            refine VFact.mk (Mem.le_refl _) ?_
            repeat (first | refine VIf.tt ?_ | refine VIf.ff ?_)
            refine VFact.mk (Mem.le_refl _) ?_
            repeat (first | refine VIf.tt ?_ | refine VIf.ff ?_)
            refine VFact.mk (Mem.le_refl _) ?_
            exact ⟨rfl, (), trivial, Wk.mk' (fun k => if k = 0 then 1 else if k = 1 then 0 else k) (by repeat' constructor) (by repeat' constructor) (by simp [injOK]) rfl rfl rfl⟩
    · refine VBoth.mk ?_ ?_
      · repeat (first | refine VIf.tt ?_ | refine VIf.ff ?_)
        refine VFact.mk (Mem.le_refl _) ?_
        refine VBoth.mk ?_ ?_
        · repeat (first | refine VIf.tt ?_ | refine VIf.ff ?_)
          refine VFn.p b1 ?_
          repeat (first | refine VIf.tt ?_ | refine VIf.ff ?_)
          refine VFact.mk (Mem.le_refl _) ?_
          refine VBoth.mk ?_ ?_
          · repeat (first | refine VIf.tt ?_ | refine VIf.ff ?_)
            refine VFn.p b2 ?_
            repeat (first | refine VIf.tt ?_ | refine VIf.ff ?_)
            refine VFact.mk (Mem.le_refl _) ?_
            repeat (first | refine VIf.tt ?_ | refine VIf.ff ?_)
            refine VFact.mk (Mem.le_refl _) ?_
            repeat (first | refine VIf.tt ?_ | refine VIf.ff ?_)
            refine VFact.mk (Mem.le_refl _) ?_
            repeat (first | refine VIf.tt ?_ | refine VIf.ff ?_)
            refine VFact.mk (Mem.le_refl _) ?_
            exact ⟨rfl, (), trivial, (Wk.mk' id (by repeat' constructor) (by repeat' constructor) (injOK_id _) rfl rfl rfl)⟩
          · repeat (first | refine VIf.tt ?_ | refine VIf.ff ?_)
            refine VFact.mk (Mem.le_refl _) ?_
            repeat (first | refine VIf.tt ?_ | refine VIf.ff ?_)
            refine VFn.p b2 ?_
            repeat (first | refine VIf.tt ?_ | refine VIf.ff ?_)
            refine VFact.mk (Mem.le_refl _) ?_
            repeat (first | refine VIf.tt ?_ | refine VIf.ff ?_)
            refine VFact.mk (Mem.le_refl _) ?_
            repeat (first | refine VIf.tt ?_ | refine VIf.ff ?_)
            refine VFact.mk (Mem.le_refl _) ?_
            exact ⟨rfl, (), trivial, (Wk.mk' id (by repeat' constructor) (by repeat' constructor) (injOK_id _) rfl rfl rfl)⟩
        · repeat (first | refine VIf.tt ?_ | refine VIf.ff ?_)
          refine VFact.mk (Mem.le_refl _) ?_
          repeat (first | refine VIf.tt ?_ | refine VIf.ff ?_)
          refine VFn.p b1 ?_
          repeat (first | refine VIf.tt ?_ | refine VIf.ff ?_)
          refine VFact.mk (Mem.le_refl _) ?_
          repeat (first | refine VIf.tt ?_ | refine VIf.ff ?_)
          refine VFn.p b2 ?_
          repeat (first | refine VIf.tt ?_ | refine VIf.ff ?_)
          refine VFact.mk (Mem.le_refl _) ?_
          repeat (first | refine VIf.tt ?_ | refine VIf.ff ?_)
          refine VFact.mk (Mem.le_refl _) ?_
          repeat (first | refine VIf.tt ?_ | refine VIf.ff ?_)
          refine VFact.mk (Mem.le_refl _) ?_
          exact ⟨rfl, (), trivial, (Wk.mk' id (by repeat' constructor) (by repeat' constructor) (injOK_id _) rfl rfl rfl)⟩
      · repeat (first | refine VIf.tt ?_ | refine VIf.ff ?_)
        refine VFact.mk (Mem.le_refl _) ?_
        refine VBoth.mk ?_ ?_
        · repeat (first | refine VIf.tt ?_ | refine VIf.ff ?_)
          refine VFn.p b1 ?_
          repeat (first | refine VIf.tt ?_ | refine VIf.ff ?_)
          refine VFact.mk (Mem.le_refl _) ?_
          refine VBoth.mk ?_ ?_
          · repeat (first | refine VIf.tt ?_ | refine VIf.ff ?_)
            refine VFn.p b2 ?_
            repeat (first | refine VIf.tt ?_ | refine VIf.ff ?_)
            refine VFact.mk (Mem.le_refl _) ?_
            repeat (first | refine VIf.tt ?_ | refine VIf.ff ?_)
            refine VFact.mk (Mem.le_refl _) ?_
            repeat (first | refine VIf.tt ?_ | refine VIf.ff ?_)
            refine VFact.mk (Mem.le_refl _) ?_
            repeat (first | refine VIf.tt ?_ | refine VIf.ff ?_)
            refine VFact.mk (Mem.le_refl _) ?_
            exact ⟨rfl, (), trivial, Wk.mk' (fun k => if k = 0 then 1 else if k = 1 then 0 else k) (by repeat' constructor) (by repeat' constructor) (by simp [injOK]) rfl rfl rfl⟩
          · repeat (first | refine VIf.tt ?_ | refine VIf.ff ?_)
            refine VFact.mk (Mem.le_refl _) ?_
            repeat (first | refine VIf.tt ?_ | refine VIf.ff ?_)
            refine VFn.p b2 ?_
            repeat (first | refine VIf.tt ?_ | refine VIf.ff ?_)
            refine VFact.mk (Mem.le_refl _) ?_
            repeat (first | refine VIf.tt ?_ | refine VIf.ff ?_)
            refine VFact.mk (Mem.le_refl _) ?_
            repeat (first | refine VIf.tt ?_ | refine VIf.ff ?_)
            refine VFact.mk (Mem.le_refl _) ?_
            exact ⟨rfl, (), trivial, Wk.mk' (fun k => if k = 0 then 1 else if k = 1 then 0 else k) (by repeat' constructor) (by repeat' constructor) (by simp [injOK]) rfl rfl rfl⟩
        · repeat (first | refine VIf.tt ?_ | refine VIf.ff ?_)
          refine VFact.mk (Mem.le_refl _) ?_
          repeat (first | refine VIf.tt ?_ | refine VIf.ff ?_)
          refine VFn.p b1 ?_
          repeat (first | refine VIf.tt ?_ | refine VIf.ff ?_)
          refine VFact.mk (Mem.le_refl _) ?_
          repeat (first | refine VIf.tt ?_ | refine VIf.ff ?_)
          refine VFn.p b2 ?_
          repeat (first | refine VIf.tt ?_ | refine VIf.ff ?_)
          refine VFact.mk (Mem.le_refl _) ?_
          repeat (first | refine VIf.tt ?_ | refine VIf.ff ?_)
          refine VFact.mk (Mem.le_refl _) ?_
          repeat (first | refine VIf.tt ?_ | refine VIf.ff ?_)
          refine VFact.mk (Mem.le_refl _) ?_
          exact ⟨rfl, (), trivial, Wk.mk' (fun k => if k = 0 then 1 else if k = 1 then 0 else k) (by repeat' constructor) (by repeat' constructor) (by simp [injOK]) rfl rfl rfl⟩
  rintro _ m rfl _
  repeat (first | refine VIf.tt ?_ | refine VIf.ff ?_)
  refine VCode.frz [6, 7] ?_
  repeat (first | refine VIf.tt ?_ | refine VIf.ff ?_)
  refine VFzB.mk fun z1 D1 N1 hN1 hD1 => ?_
  repeat (first | refine VIf.tt ?_ | refine VIf.ff ?_)
  refine VFzB.mk fun z2 D2 N2 hN2 hD2 => ?_
  have hD1 : N1 D1 = some (.cells #[.int .i64 (x1 / 10000), .int .i64 (y1 / 10000)] 30 (0, 0)) := hD1
  have hD2 : N2 D2 = some (.cells #[.int .i64 (x2 / 10000), .int .i64 (y2 / 10000)] 30 (0, 0)) := hD2
  have n2 := hN1.trans hN2
  repeat (first | refine VIf.tt ?_ | refine VIf.ff ?_)
  refine VCode.loopG cxOK (fun m => m = fun _ => none) rfl (Int × Mem)
    (fun (⟨y, M1⟩ : Int × Mem) => ⟨[(0, .v (.func (.yield l) #[] #[])), (3, .v (.pointer (some ⟨B0, 0, none⟩))), (4, .v (.pointer (some ⟨B3, 0, none⟩))), (6, .v (.pointer (some ⟨D1, 0, none⟩))), (7, .v (.pointer (some ⟨D2, 0, none⟩))), (8, .v (.int .i64 y))],
      [], 2, M1, 38, ⟨fun _ => none, some (l, (blkL t (x1 / 10000) (x2 / 10000) y (y2 / 10000) s).map fun f => [flV f]), fun _ => none⟩⟩)
    (fun s => N2.le s.2 ∧ -100 ≤ s.1 ∧ s.1 ≤ 100) (fun s => (y2 / 10000 + 1 - s.1).toNat) (y1 / 10000, N2) ⟨Mem.le_refl _, by first | omega | (simp only; omega), by first | omega | (simp only; omega)⟩ (Wk.mk' id (by repeat' constructor) (by repeat' constructor) (injOK_id _) rfl rfl rfl) ?_
  rintro ⟨y, M1⟩ ⟨hM1, hy1, hy2⟩ m rfl
  have hM1' : N2.le M1 := hM1
  have hM1 : M.le M1 := n2.trans hM1'
  have rd2 : ∀ M', M1.le M' → ∀ (j : Nat) u, (#[Value.int .i64 (x2 / 10000), .int .i64 (y2 / 10000)] : Array Value)[j]? = some u → M'.cell ((⟨D2, 0, none⟩ : Addr).add j) = some u := fun M' h j u hu => cellAt ((hM1'.trans h) _ _ hD2) j hu
  have rd1 : ∀ M', M1.le M' → ∀ (j : Nat) u, (#[Value.int .i64 (x1 / 10000), .int .i64 (y1 / 10000)] : Array Value)[j]? = some u → M'.cell ((⟨D1, 0, none⟩ : Addr).add j) = some u := fun M' h j u hu => cellAt (((hN2.trans hM1').trans h) _ _ hD1) j hu
  repeat (first | refine VIf.tt ?_ | refine VIf.ff ?_)
  refine VRead.mk _ (rd2 M1 (Mem.le_refl _) 1 _ rfl) ?_
  have hy1 : -100 ≤ y := hy1
  have hy2 : y ≤ 100 := hy2
  repeat (first | refine VIf.tt ?_ | refine VIf.ff ?_)
  refine VIf.mk (fun hle => ?_) (fun hgt => ?_)
  · have hle : y ≤ y2 / 10000 := of_decide_eq_true hle
    repeat (first | refine VIf.tt ?_ | refine VIf.ff ?_)
    refine VRead.mk _ (rd1 M1 (Mem.le_refl _) 0 _ rfl) ?_
    repeat (first | refine VIf.tt ?_ | refine VIf.ff ?_)
    refine VCode.loopG cxOK (fun m => m = fun _ => none) rfl (Int × Mem)
      (fun (⟨x, M2⟩ : Int × Mem) => ⟨[(0, .v (.func (.yield l) #[] #[])), (3, .v (.pointer (some ⟨B0, 0, none⟩))), (4, .v (.pointer (some ⟨B3, 0, none⟩))), (6, .v (.pointer (some ⟨D1, 0, none⟩))), (7, .v (.pointer (some ⟨D2, 0, none⟩))), (8, .v (.int .i64 y)), (9, .v (.int .i64 x))],
        [], 2, M2, 38, ⟨fun _ => none, some (l, (rowL t x (x2 / 10000) y s ++ blkL t (x1 / 10000) (x2 / 10000) (y + 1) (y2 / 10000) s).map fun f => [flV f]), fun _ => none⟩⟩)
      (fun s => M1.le s.2 ∧ -100 ≤ s.1 ∧ s.1 ≤ 100) (fun s => (x2 / 10000 + 1 - s.1).toNat) (x1 / 10000, M1) ⟨Mem.le_refl _, by first | omega | (simp only; omega), by first | omega | (simp only; omega)⟩ ?_ ?_
    · refine Wk.mk' id (by repeat' constructor) (by repeat' constructor) (injOK_id _) rfl rfl ?_
      show some (l, _) = some (l, _)
      rw [blk_cons hle]
    rintro ⟨x, M2⟩ ⟨hM2, hx1, hx2⟩ m rfl
    have hM2 : M1.le M2 := hM2
    have m2 := hM1.trans hM2
    have hx1 : -100 ≤ x := hx1
    have hx2 : x ≤ 100 := hx2
    repeat (first | refine VIf.tt ?_ | refine VIf.ff ?_)
    refine VRead.mk _ (rd2 M2 hM2 0 _ rfl) ?_
    repeat (first | refine VIf.tt ?_ | refine VIf.ff ?_)
    refine VIf.mk (fun hlx => ?_) (fun hgx => ?_)
    · have hlx : x ≤ x2 / 10000 := of_decide_eq_true hlx
      repeat (first | refine VIf.tt ?_ | refine VIf.ff ?_)
      refine VReads.mk (tdC t v).toList rfl (fun j u hj => cellAt (m2 _ _ hB0) j (by simpa using hj)) ?_
      repeat (first | refine VIf.tt ?_ | refine VIf.ff ?_)
      refine VRead.mk _ (box1 (m2 _ _ hB3)) ?_
      repeat (first | refine VIf.tt ?_ | refine VIf.ff ?_)
      refine VFn.mk _ (of_fn t v x y s M2 (hv.le m2) ht) ?_
      rintro rs M3 hM3 rfl
      repeat (first | refine VIf.tt ?_ | refine VIf.ff ?_)
      refine VYield.mk ((rowL t (x + 1) (x2 / 10000) y s ++ blkL t (x1 / 10000) (x2 / 10000) (y + 1) (y2 / 10000) s).map fun f => [flV f]) ?_ ?_ ?_
      · simp only [Gh.mk.injEq, and_true, true_and, Option.some.injEq, Prod.mk.injEq]
        rw [row_cons hlx]; rfl
      · refine VIf.ff ?_
        repeat (first | refine VIf.tt ?_ | refine VIf.ff ?_)
        refine VArith.ok (by first | omega | (simp only; omega)) (by first | omega | (simp only; omega)) ?_
        exact ⟨rfl, (x + 1, M3), ⟨hM2.trans hM3, by first | omega | (simp only; omega), by first | omega | (simp only; omega)⟩, by first | omega | (simp only; omega), (Wk.mk' id (by repeat' constructor) (by repeat' constructor) (injOK_id _) rfl rfl rfl)⟩
      · refine VIf.tt ?_
        exact VEnd.stop rfl
    · have hgx : ¬ x ≤ x2 / 10000 := of_decide_eq_false hgx
      repeat (first | refine VIf.tt ?_ | refine VIf.ff ?_)
      refine VArith.ok (by first | omega | (simp only; omega)) (by first | omega | (simp only; omega)) ?_
      refine ⟨rfl, (y + 1, M2), ⟨hM1'.trans hM2, by first | omega | (simp only; omega), by first | omega | (simp only; omega)⟩, by first | omega | (simp only; omega), ?_⟩
      refine Wk.mk' id (by repeat' constructor) (by repeat' constructor) (injOK_id _) rfl rfl ?_
      show some (l, _) = some (l, _)
      rw [row_nil (by omega)]; rfl
  · have hgt : ¬ y ≤ y2 / 10000 := of_decide_eq_false hgt
    exact VEnd.all (by rw [blk_nil (by omega)]; rfl)
end Go.Proofs.Ytlppfikkgcfaoaa

/- Contracts of span.Join and tide.join. -/
namespace Go.Proofs.Ytlppfikkgcfaoaa
open Go Go.V Go.RowKit
def spOK (p : Pt) : Prop := p.1 ≤ p.2 ∧ -1000000000000 ≤ p.1 ∧ p.2 ≤ 1000000000000
theorem spanOK_fn (p : Pt) (M : Mem) (h : spOK p) : FnP Try.prog 123 [.agg #[.int .i64 p.1, .int .i64 p.2]] M [.bool true] := by
  have := spanValid_fn p.1 p.2 M
  unfold spOK at h
  rw [decide_eq_true h] at this
  exact this
theorem valid1_fn (p : Pt) (M : Mem) (h : spOK p) : FnP Try.prog 127 [.agg #[.int .i64 p.1, .int .i64 p.2]] M [.bool false] := by
  refine Fn.of_vc cxOK Try.func127 rfl rfl rfl ?_
  repeat (first | refine VIf.tt ?_ | refine VIf.ff ?_)
  refine VFn.p (spanOK_fn p M h) ?_
  repeat (first | refine VIf.tt ?_ | refine VIf.ff ?_)
  exact VFact.mk ⟨rfl, rfl⟩ trivial
theorem spanIdx_fn (v : Value) (ps : List Pt) (M : Mem) (hv : Pts M v ps) (hok : ∀ i, i < ps.length → spOK (gp ps i)) : FnP Try.prog 133 [v, .func (.func 127) #[] #[]] M [.int .i64 (-1)] := by
  obtain ⟨ad, c, rfl⟩ := hv.shape
  obtain ⟨_, hm, hrd⟩ := hv.cellsOf
  unfold maxLen at hm
  refine Fn.of_vc cxOK Try.func133 rfl rfl rfl ?_
  repeat (first | refine VIf.tt ?_ | refine VIf.ff ?_)
  refine VCode.loop cxOK Nat (fun i => ⟨[(0, .v (.slice ad ps.length c)), (1, .v (.func (.func 127) #[] #[])), (7, .v (.int .i64 ps.length)), (8, .v (.int .i64 i))], [], 0, M, 19, ⟨fun _ => none, none, fun _ => none⟩⟩)
    (fun i => i ≤ ps.length) (fun i => ps.length - i) 0 (Nat.zero_le _) (Wk.mk' id (by repeat' constructor) (by repeat' constructor) (injOK_id _) rfl rfl rfl) ?_
  intro i hi m
  repeat (first | refine VIf.tt ?_ | refine VIf.ff ?_)
  refine VIf.mk (fun hlt => ?_) (fun hge => ?_)
  · have hlt : i < ps.length := lt_of_dec hlt
    obtain ⟨ad1, e1, r1⟩ := hrd M (Mem.le_refl _) i hlt
    repeat (first | refine VIf.tt ?_ | refine VIf.ff ?_)
    refine VIdx.mk ad1 i e1 rfl hlt ?_
    repeat (first | refine VIf.tt ?_ | refine VIf.ff ?_)
    refine VReads.mk [.int .i64 (gp ps i).1, .int .i64 (gp ps i).2] rfl r1 ?_
    repeat (first | refine VIf.tt ?_ | refine VIf.ff ?_)
    refine VFn.p (valid1_fn (gp ps i) M (hok i hlt)) ?_
    repeat (first | refine VIf.tt ?_ | refine VIf.ff ?_)
    repeat (first | refine VIf.tt ?_ | refine VIf.ff ?_)
    refine VArith.ok (by first | omega | (simp only; omega)) (by first | omega | (simp only; omega)) ?_
    exact ⟨i + 1, hlt, (by first | omega | (simp only; omega)), (Wk.mk' id (by repeat' constructor) (by repeat' constructor) (injOK_id _) rfl rfl rfl)⟩
  · repeat (first | refine VIf.tt ?_ | refine VIf.ff ?_)
    exact VFact.mk ⟨rfl, rfl⟩ trivial
theorem spanCont_fn (v : Value) (ps : List Pt) (M : Mem) (hv : Pts M v ps) (hok : ∀ i, i < ps.length → spOK (gp ps i)) : FnP Try.prog 126 [v, .func (.func 127) #[] #[]] M [.bool false] := by
  obtain ⟨ad, c, rfl⟩ := hv.shape
  refine Fn.of_vc cxOK Try.func126 rfl rfl rfl ?_
  repeat (first | refine VIf.tt ?_ | refine VIf.ff ?_)
  refine VFn.p (spanIdx_fn _ ps M hv hok) ?_
  repeat (first | refine VIf.tt ?_ | refine VIf.ff ?_)
  exact VFact.mk ⟨rfl, rfl⟩ trivial
theorem spansOK_fn (v : Value) (ps : List Pt) (M : Mem) (hv : Pts M v ps) (hok : ∀ i, i < ps.length → spOK (gp ps i)) : FnP Try.prog 112 [v] M [.bool true] := by
  obtain ⟨ad, c, rfl⟩ := hv.shape
  refine Fn.of_vc cxOK Try.func112 rfl rfl rfl ?_
  repeat (first | refine VIf.tt ?_ | refine VIf.ff ?_)
  refine VFn.p (spanCont_fn _ ps M hv hok) ?_
  repeat (first | refine VIf.tt ?_ | refine VIf.ff ?_)
  exact VFact.mk ⟨rfl, rfl⟩ trivial
def mnL (xs : List Int) (k : Nat) : Int := (xs.take k).foldl min (xs.getD 0 0)
def mxL (xs : List Int) (k : Nat) : Int := (xs.take k).foldl max (xs.getD 0 0)
theorem mn_step {xs : List Int} {k : Nat} (h : k < xs.length) : mnL xs (k + 1) = min (mnL xs k) (xs.getD k 0) := by
  unfold mnL
  rw [List.take_add_one, List.foldl_append]
  simp [h]
theorem mx_step {xs : List Int} {k : Nat} (h : k < xs.length) : mxL xs (k + 1) = max (mxL xs k) (xs.getD k 0) := by
  unfold mxL
  rw [List.take_add_one, List.foldl_append]
  simp [h]
theorem mn_one {xs : List Int} (h : 0 < xs.length) : mnL xs 1 = xs.getD 0 0 := by
  rw [mn_step h]; simp [mnL]
theorem mx_one {xs : List Int} (h : 0 < xs.length) : mxL xs 1 = xs.getD 0 0 := by
  rw [mx_step h]; simp [mxL]
theorem min_fn (v : Value) (xs : List Int) (M : Mem) (hv : Ints M v xs) (h0 : 0 < xs.length) : FnP Try.prog 128 [v] M [.int .i64 (mnL xs xs.length)] := by
  obtain ⟨ad, c, rfl, hc, hm, hl, h1, hcell⟩ := hv
  unfold maxLen at hm
  refine Fn.of_vc cxOK Try.func128 rfl rfl rfl ?_
  repeat (first | refine VIf.tt ?_ | refine VIf.ff ?_)
  refine VIf.mk (fun h => absurd (of_decide_eq_true h) (by omega)) (fun _ => ?_)
  obtain ⟨ad', ead, hrd⟩ := hcell (by omega)
  have rd : ∀ i, i < xs.length → M.cell (ad'.add (i * 1)) = some (.int .i64 (xs.getD i 0)) := fun i hi => by
    have := hrd i (.int .i64 (xs.getD i 0)) (by simp [hi])
    simpa using this
  repeat (first | refine VIf.tt ?_ | refine VIf.ff ?_)
  refine VIdx.mk ad' 0 ead rfl h0 ?_
  repeat (first | refine VIf.tt ?_ | refine VIf.ff ?_)
  refine VRead.mk _ (rd 0 h0) ?_
  repeat (first | refine VIf.tt ?_ | refine VIf.ff ?_)
  refine VCode.loop cxOK Nat (fun i => ⟨[(0, .v (.slice ad xs.length c)), (3, .v (.int .i64 (mnL xs i))), (4, .v (.int .i64 i))], [], 0, M, 25, ⟨fun _ => none, none, fun _ => none⟩⟩)
    (fun i => 1 ≤ i ∧ i ≤ xs.length) (fun i => xs.length - i) 1 ⟨Nat.le_refl _, h0⟩ ?_ ?_
  · rw [mn_one h0]; exact (Wk.mk' id (by repeat' constructor) (by repeat' constructor) (injOK_id _) rfl rfl rfl)
  rintro i ⟨hi1, hi⟩ m
  repeat (first | refine VIf.tt ?_ | refine VIf.ff ?_)
  refine VIf.mk (fun hlt => ?_) (fun hge => ?_)
  · have hlt : i < xs.length := lt_of_dec hlt
    repeat (first | refine VIf.tt ?_ | refine VIf.ff ?_)
    refine VIdx.mk ad' i ead rfl hlt ?_
    repeat (first | refine VIf.tt ?_ | refine VIf.ff ?_)
    refine VRead.mk _ (rd i hlt) ?_
    repeat (first | refine VIf.tt ?_ | refine VIf.ff ?_)
    refine VArith.ok (by first | omega | (simp only; omega)) (by first | omega | (simp only; omega)) ?_
    refine ⟨i + 1, ⟨by omega, hlt⟩, (by first | omega | (simp only; omega)), ?_⟩
    rw [mn_step hlt]; exact (Wk.mk' id (by repeat' constructor) (by repeat' constructor) (injOK_id _) rfl rfl rfl)
  · have : i = xs.length := by have := ge_of_dec hge; omega
    subst this
    repeat (first | refine VIf.tt ?_ | refine VIf.ff ?_)
    exact VFact.mk ⟨rfl, rfl⟩ trivial
theorem max_fn (v : Value) (xs : List Int) (M : Mem) (hv : Ints M v xs) (h0 : 0 < xs.length) : FnP Try.prog 129 [v] M [.int .i64 (mxL xs xs.length)] := by
  obtain ⟨ad, c, rfl, hc, hm, hl, h1, hcell⟩ := hv
  unfold maxLen at hm
  refine Fn.of_vc cxOK Try.func129 rfl rfl rfl ?_
  repeat (first | refine VIf.tt ?_ | refine VIf.ff ?_)
  refine VIf.mk (fun h => absurd (of_decide_eq_true h) (by omega)) (fun _ => ?_)
  obtain ⟨ad', ead, hrd⟩ := hcell (by omega)
  have rd : ∀ i, i < xs.length → M.cell (ad'.add (i * 1)) = some (.int .i64 (xs.getD i 0)) := fun i hi => by
    have := hrd i (.int .i64 (xs.getD i 0)) (by simp [hi])
    simpa using this
  repeat (first | refine VIf.tt ?_ | refine VIf.ff ?_)
  refine VIdx.mk ad' 0 ead rfl h0 ?_
  repeat (first | refine VIf.tt ?_ | refine VIf.ff ?_)
  refine VRead.mk _ (rd 0 h0) ?_
  repeat (first | refine VIf.tt ?_ | refine VIf.ff ?_)
  refine VCode.loop cxOK Nat (fun i => ⟨[(0, .v (.slice ad xs.length c)), (3, .v (.int .i64 (mxL xs i))), (4, .v (.int .i64 i))], [], 0, M, 25, ⟨fun _ => none, none, fun _ => none⟩⟩)
    (fun i => 1 ≤ i ∧ i ≤ xs.length) (fun i => xs.length - i) 1 ⟨Nat.le_refl _, h0⟩ ?_ ?_
  · rw [mx_one h0]; exact (Wk.mk' id (by repeat' constructor) (by repeat' constructor) (injOK_id _) rfl rfl rfl)
  rintro i ⟨hi1, hi⟩ m
  repeat (first | refine VIf.tt ?_ | refine VIf.ff ?_)
  refine VIf.mk (fun hlt => ?_) (fun hge => ?_)
  · have hlt : i < xs.length := lt_of_dec hlt
    repeat (first | refine VIf.tt ?_ | refine VIf.ff ?_)
    refine VIdx.mk ad' i ead rfl hlt ?_
    repeat (first | refine VIf.tt ?_ | refine VIf.ff ?_)
    refine VRead.mk _ (rd i hlt) ?_
    repeat (first | refine VIf.tt ?_ | refine VIf.ff ?_)
    refine VArith.ok (by first | omega | (simp only; omega)) (by first | omega | (simp only; omega)) ?_
    refine ⟨i + 1, ⟨by omega, hlt⟩, (by first | omega | (simp only; omega)), ?_⟩
    rw [mx_step hlt]; exact (Wk.mk' id (by repeat' constructor) (by repeat' constructor) (injOK_id _) rfl rfl rfl)
  · have : i = xs.length := by have := ge_of_dec hge; omega
    subst this
    repeat (first | refine VIf.tt ?_ | refine VIf.ff ?_)
    exact VFact.mk ⟨rfl, rfl⟩ trivial
theorem least_fn (v : Value) (xs : List Int) (lo hi : Int) (M : Mem) (hv : Ints M v xs) (h0 : 0 < xs.length) (hl : mnL xs xs.length = lo) (hh : mxL xs xs.length = hi) (hok : spOK (lo, hi)) : FnP Try.prog 113 [v] M [.agg #[.int .i64 lo, .int .i64 hi], .int .i64 0] := by
  have h1 := min_fn v xs M hv h0
  have h2 := max_fn v xs M hv h0
  rw [hl] at h1
  rw [hh] at h2
  obtain ⟨ad, c, rfl, _⟩ := hv
  refine Fn.of_vc cxOK Try.func113 rfl rfl rfl ?_
  repeat (first | refine VIf.tt ?_ | refine VIf.ff ?_)
  refine VFn.p h1 ?_
  repeat (first | refine VIf.tt ?_ | refine VIf.ff ?_)
  refine VFn.p h2 ?_
  repeat (first | refine VIf.tt ?_ | refine VIf.ff ?_)
  refine VFn.p (spanOK_fn (lo, hi) M hok) ?_
  repeat (first | refine VIf.tt ?_ | refine VIf.ff ?_)
  exact VFact.mk ⟨rfl, rfl⟩ trivial
theorem Join_fn (a b c d : Int) (M : Mem) (h1 : spOK (a, b)) (h2 : spOK (c, d)) : V.Fn Try.prog 88 [.agg #[.int .i64 a, .int .i64 b], .agg #[.int .i64 c, .int .i64 d]] M fun rs _ => rs = [.agg #[.int .i64 (min a c), .int .i64 (max b d)], .int .i64 0] := by
  refine Fn.of_vc cxOK Try.func88 rfl rfl rfl ?_
  repeat (first | refine VIf.tt ?_ | refine VIf.ff ?_)
  refine VFz.mk fun x B M1 hM1 hx => ?_
  have hx : Pts M1 x [(a, b), (c, d)] := hx
  repeat (first | refine VIf.tt ?_ | refine VIf.ff ?_)
  refine VFn.p (spansOK_fn x _ M1 hx fun i hi => ?_) ?_
  · match i, hi with
    | 0, _ => exact h1
    | 1, _ => exact h2
  repeat (first | refine VIf.tt ?_ | refine VIf.ff ?_)
  refine VFz.mk fun y B2 M2 hM2 hy => ?_
  have hy : Ints M2 y [a, b, c, d] := hy
  unfold spOK at h1 h2
  simp only at h1 h2
  repeat (first | refine VIf.tt ?_ | refine VIf.ff ?_)
  refine VFn.p (least_fn y [a, b, c, d] (min a c) (max b d) M2 hy (by simp) ?_ ?_ ?_) ?_
  · simp only [mnL, List.length_cons, List.length_nil, List.take, List.foldl, List.getD_cons_zero]; omega
  · simp only [mxL, List.length_cons, List.length_nil, List.take, List.foldl, List.getD_cons_zero]; omega
  · unfold spOK; simp only; omega
  repeat (first | refine VIf.tt ?_ | refine VIf.ff ?_)
  exact VFact.mk rfl trivial
theorem joinF_fn (a b : FlowS) (M : Mem) (h1 : bndB a = true) (h2 : bndB b = true) : V.Fn Try.prog 51 [flV a, flV b] M fun rs _ => rs = [flV (joinF a b)] := by
  simp only [bndB, spB, Bool.and_eq_true, decide_eq_true_eq] at h1 h2
  refine Fn.of_vc cxOK Try.func51 rfl rfl rfl ?_
  repeat (first | refine VIf.tt ?_ | refine VIf.ff ?_)
  refine VFn.mk _ (Join_fn a.ul a.uh b.ul b.uh M (by unfold spOK; simp only; omega) (by unfold spOK; simp only; omega)) ?_
  rintro rs M1 hM1 rfl
  repeat (first | refine VIf.tt ?_ | refine VIf.ff ?_)
  refine VFn.mk _ (Join_fn a.vl a.vh b.vl b.vh M1 (by unfold spOK; simp only; omega) (by unfold spOK; simp only; omega)) ?_
  rintro rs M2 hM2 rfl
  repeat (first | refine VIf.tt ?_ | refine VIf.ff ?_)
  refine VFn.mk _ (Join_fn a.hl a.hh b.hl b.hh M2 (by unfold spOK; simp only; omega) (by unfold spOK; simp only; omega)) ?_
  rintro rs M3 hM3 rfl
  repeat (first | refine VIf.tt ?_ | refine VIf.ff ?_)
  exact VFact.mk rfl trivial
end Go.Proofs.Ytlppfikkgcfaoaa

/- Contracts of tide: bounds of all that is ranged over. -/
namespace Go.Proofs.Ytlppfikkgcfaoaa
open Go Go.V Go.RowKit
set_option maxRecDepth 20000 in
set_option maxHeartbeats 2000000 in
theorem joined_fn (gf : Nat) (lb : Array Value) (fs : List FlowS) (M : Mem) (hit : Iter Try.prog gf lb M (fs.map fun f => [flV f])) (hne : fs ≠ []) (hb : ∀ f ∈ fs, bndB f = true) (hp : ∀ f ∈ fs, f.x = 0 ∧ f.y = 0 ∧ f.s = 0) :
    V.Fn Try.prog 49 [.func (.func gf) #[] lb, .func (.func 51) #[] #[]] M fun rs _ => ∃ f, rs = [flV f] ∧ IsJ (· ∈ fs) f := by
  refine Fn.of_vc cxOK Try.func49 rfl rfl rfl ?_
  repeat (first | refine VIf.tt ?_ | refine VIf.ff ?_)
  refine VCode.rangeB cxOK rfl hit (fun x hx => ?_) [(3, .box 0 0), (4, .box 1 0), (5, .box 2 0)] rfl (by kernel_rfl) (by kernel_rfl) (FlowS × Bool × Mem)
    (fun _ (⟨f, b, M1⟩ : FlowS × Bool × Mem) => ⟨[(3, .box 0 0), (4, .box 1 0), (5, .box 2 0)], [(2, some (.box 4 [.v (.bool b)])), (1, some (.box 25 [.v (.int .i64 f.x), .v (.int .i64 f.y), .v (.int .i64 f.s), .v (.int .i64 f.ul), .v (.int .i64 f.uh), .v (.int .i64 f.vl), .v (.int .i64 f.vh), .v (.int .i64 f.hl), .v (.int .i64 f.hh)])), (0, some (.box 84 [.v (.func (.func 51) #[] #[])]))], 3, M1, 16, ⟨fun _ => none, none, fun _ => none⟩⟩)
    (fun k s => M.le s.2.2 ∧ (s.2.1 = true → k = 0) ∧ (s.2.1 = false → IsJ (· ∈ fs.take k) s.1)) (zeroF, true, M) ⟨Mem.le_refl _, fun _ => rfl, fun h => by cases h⟩ ?_ (fun k s => ⟨rfl, rfl⟩) ?_ ?_
  · obtain ⟨f, _, rfl⟩ := List.mem_map.1 hx
    rfl
  · exact (Wk.mk' id (by repeat' constructor) (by repeat' constructor) (injOK_id _) rfl rfl rfl)
  · rintro k ⟨f, b, M1⟩ args ⟨hM1, hK, hJ⟩ hxs m q
    have hM1 : M.le M1 := hM1
    have hJ : b = false → IsJ (· ∈ fs.take k) f := hJ
    have hK : b = true → k = 0 := hK
    rw [List.getElem?_map] at hxs
    obtain ⟨g, hg, rfl⟩ : ∃ g, fs[k]? = some g ∧ [flV g] = args := by
      cases h : fs[k]? with
      | none => rw [h] at hxs; cases hxs
      | some g => rw [h] at hxs; exact ⟨g, rfl, by simpa using hxs⟩
    obtain ⟨hk, eg⟩ := List.getElem?_eq_some_iff.1 hg
    have hgm : g ∈ fs := by rw [← eg]; exact List.getElem_mem hk
    have htk : fs.take (k + 1) = fs.take k ++ [g] := by rw [List.take_add_one, hg]; rfl
    intro m'
    repeat (first | refine VIf.tt ?_ | refine VIf.ff ?_)
    refine VIf.mk (fun h0 => ?_) (fun h0 => ?_)
    · have h0 : k = 0 := hK h0
      subst h0
      refine ⟨(g, false, M1), ⟨hM1, (fun h => by cases h), fun _ => ?_⟩, (Wk.mk' id (by repeat' constructor) (by repeat' constructor) (injOK_id _) rfl rfl rfl)⟩
      show IsJ (· ∈ fs.take (0 + 1)) g
      rw [htk]
      obtain ⟨p1, p2, p3⟩ := hp g hgm
      exact (IsJ.one p1 p2 p3).congr fun x => by simp
    · have h0 : b = false := h0
      subst h0
      have hJ := hJ rfl
      repeat (first | refine VIf.tt ?_ | refine VIf.ff ?_)
      refine VFn.mk _ (joinF_fn f g M1 (hJ.bnd fun x hx => hb x (List.mem_of_mem_take hx)) (hb g hgm)) ?_
      rintro rs M2 hM2 rfl
      refine ⟨(joinF f g, false, M2), ⟨hM1.trans hM2, (fun h => by cases h), fun _ => ?_⟩, (Wk.mk' id (by repeat' constructor) (by repeat' constructor) (injOK_id _) rfl rfl rfl)⟩
      show IsJ (· ∈ fs.take (k + 1)) (joinF f g)
      rw [htk]
      obtain ⟨p1, p2, p3⟩ := hp g hgm
      exact (hJ.join (IsJ.one p1 p2 p3)).congr fun x => by simp
  · rintro ⟨f, b, M1⟩ m ⟨hM1, hK, hJ⟩
    repeat (first | refine VIf.tt ?_ | refine VIf.ff ?_)
    refine VFact.mk ⟨f, rfl, ?_⟩ trivial
    have hb0 : b = false := by
      cases b with
      | false => rfl
      | true => have := hK rfl; rw [List.length_map] at this; exact absurd (List.length_eq_zero_iff.1 this) hne
    have h := hJ hb0
    simp only [List.length_map, List.take_length] at h
    exact h
end Go.Proofs.Ytlppfikkgcfaoaa

/- Contracts of tide: Bound. -/
namespace Go.Proofs.Ytlppfikkgcfaoaa
open Go Go.V Go.RowKit
def joinL : List FlowS → FlowS
  | [] => zeroF
  | f :: l => l.foldl joinF f
theorem fold_isJ : ∀ (l : List FlowS) (S : FlowS → Prop) (f : FlowS), IsJ S f → (∀ g ∈ l, g.x = 0 ∧ g.y = 0 ∧ g.s = 0) → IsJ (fun x => S x ∨ x ∈ l) (l.foldl joinF f)
  | [], S, f, h, _ => h.congr fun x => by simp
  | g :: l, S, f, h, hp => by
    obtain ⟨p1, p2, p3⟩ := hp g List.mem_cons_self
    exact (fold_isJ l _ _ (h.join (IsJ.one p1 p2 p3)) fun g hg => hp g (List.mem_cons_of_mem _ hg)).congr fun x => by simp [or_assoc]
theorem joinL_isJ {l : List FlowS} (hne : l ≠ []) (hp : ∀ g ∈ l, g.x = 0 ∧ g.y = 0 ∧ g.s = 0) : IsJ (· ∈ l) (joinL l) := by
  cases l with
  | nil => exact absurd rfl hne
  | cons f l =>
    obtain ⟨p1, p2, p3⟩ := hp f List.mem_cons_self
    exact (fold_isJ l _ _ (IsJ.one p1 p2 p3) fun g hg => hp g (List.mem_cons_of_mem _ hg)).congr fun x => by simp
theorem blk_ne {t : TideS} {x1 x2 y1 y2 s : Int} (hx : x1 ≤ x2) (hy : y1 ≤ y2) : blkL t x1 x2 y1 y2 s ≠ [] := by
  rw [blk_cons hy, row_cons hx]; simp
theorem blk_all {t : TideS} (ht : tideB t = true) {x1 x2 y1 y2 s : Int} : ∀ g ∈ blkL t x1 x2 y1 y2 s, bndB g = true ∧ g.x = 0 ∧ g.y = 0 ∧ g.s = 0 := fun g hg => by
  obtain ⟨x, y, s', _, _, _, _, _, _, rfl⟩ := blk_mem.1 hg
  exact ⟨of_bnd ht _ _ _, rfl, rfl, rfl⟩
theorem clip_fn (t : TideS) (v : Value) (n : Int) (B0 : Nat) (M : Mem) (hB0 : M B0 = some (.cells (tdC t v) 28 (0, 0))) : FnP Try.prog 46 [.int .i64 n, .pointer (some ⟨B0, 0, none⟩)] M [.int .i64 (clipS t n)] := by
  refine Fn.of_vc cxOK Try.func46 rfl rfl rfl ?_
  repeat (first | refine VIf.tt ?_ | refine VIf.ff ?_)
  refine VRead.mk _ (cellAt hB0 2 rfl) ?_
  repeat (first | refine VIf.tt ?_ | refine VIf.ff ?_)
  exact VFact.mk ⟨rfl, rfl⟩ trivial
def bndF (t : TideS) (x1 y1 x2 y2 c1 c2 : Int) : List FlowS := (rng c1 c2).map fun s => joinL (blkL t x1 x2 y1 y2 s)
theorem bndF_cons {t : TideS} {x1 y1 x2 y2 c1 c2 : Int} (h : c1 ≤ c2) : bndF t x1 y1 x2 y2 c1 c2 = joinL (blkL t x1 x2 y1 y2 c1) :: bndF t x1 y1 x2 y2 (c1 + 1) c2 := by unfold bndF; rw [rng_cons h]; rfl
theorem bndF_nil {t : TideS} {x1 y1 x2 y2 c1 c2 : Int} (h : c2 < c1) : bndF t x1 y1 x2 y2 c1 c2 = [] := by unfold bndF; rw [rng_nil h]; rfl
theorem clip_bd {t : TideS} (ht : tideB t = true) (q : Int) : -1 ≤ clipS t q ∧ clipS t q ≤ 1000 := by
  have := (tide_get ht).1
  unfold clipS; omega
theorem clip_mono {t : TideS} {p q : Int} (h : p ≤ q) : clipS t p ≤ clipS t q := by unfold clipS; omega
set_option maxRecDepth 20000 in
set_option maxHeartbeats 2000000 in
theorem bound_iter (t : TideS) (v : Value) (x1 y1 x2 y2 n1 n2 : Int) (M : Mem) (hv : FlsV M v t.fl) (ht : tideB t = true) (h1 : placeB (x1, y1) = true) (h2 : placeB (x2, y2) = true) (hx : x1 ≤ x2) (hy : y1 ≤ y2) (hn : 0 ≤ n1 ∧ n1 ≤ n2 ∧ n2 ≤ 1000000000) (Bc Bf Bt Bu Bl Bh : Nat)
    (hBc : M Bc = some (.cells #[.func (.func 46) #[] #[.pointer (some ⟨Bt, 0, none⟩)]] 42 (0, 0))) (hBf : M Bf = some (.cells #[.int .i64 n1] 3 (0, 0))) (hBt : M Bt = some (.cells (tdC t v) 28 (0, 0))) (hBu : M Bu = some (.cells #[.int .i64 n2] 3 (0, 0)))
    (hBl : M Bl = some (.cells #[.int .i64 x1, .int .i64 y1] 30 (0, 0))) (hBh : M Bh = some (.cells #[.int .i64 x2, .int .i64 y2] 30 (0, 0))) :
    Iter Try.prog 47 #[.pointer (some ⟨Bc, 0, none⟩), .pointer (some ⟨Bf, 0, none⟩), .pointer (some ⟨Bt, 0, none⟩), .pointer (some ⟨Bu, 0, none⟩), .pointer (some ⟨Bl, 0, none⟩), .pointer (some ⟨Bh, 0, none⟩)] M
      ((bndF t (x1 / 10000) (y1 / 10000) (x2 / 10000) (y2 / 10000) (clipS t ((n1 - t.fr) / 3600)) (clipS t ((n2 - t.fr) / 3600))).map fun f => [flV f]) := by
  have ht1 := (tide_get ht).1
  refine Iter.of_vc cxOK Try.func47 rfl rfl rfl rfl fun l => ?_
  repeat (first | refine VIf.tt ?_ | refine VIf.ff ?_)
  refine VDraw.go (by kernel_rfl) ?_
  repeat (first | refine VIf.tt ?_ | refine VIf.ff ?_)
  refine VRead.mk _ (box1 hBc) ?_
  repeat (first | refine VIf.tt ?_ | refine VIf.ff ?_)
  refine VRead.mk _ (box1 hBf) ?_
  repeat (first | refine VIf.tt ?_ | refine VIf.ff ?_)
  refine VRead.mk _ (cellAt hBt 1 rfl) ?_
  repeat (first | refine VIf.tt ?_ | refine VIf.ff ?_)
  refine VArith.ok (by first | omega | (simp only; omega)) (by first | omega | (simp only; omega)) ?_
  repeat (first | refine VIf.tt ?_ | refine VIf.ff ?_)
  refine VFn.p (down_fn (n1 - t.fr) 3600 M (by omega) (by omega) (by omega) (by omega)) ?_
  repeat (first | refine VIf.tt ?_ | refine VIf.ff ?_)
  refine VFn.p (clip_fn t v _ Bt M hBt) ?_
  obtain ⟨c1, e1⟩ : ∃ c, clipS t ((n1 - t.fr) / 3600) = c := ⟨_, rfl⟩
  obtain ⟨c2, e2⟩ : ∃ c, clipS t ((n2 - t.fr) / 3600) = c := ⟨_, rfl⟩
  have g1 := clip_bd ht ((n1 - t.fr) / 3600)
  have g2 := clip_bd ht ((n2 - t.fr) / 3600)
  rw [e1] at g1
  rw [e2] at g2
  have hmono : ∀ {a b : Int}, a ≤ b → a / 10000 ≤ b / 10000 := fun h => by omega
  repeat (first | refine VIf.tt ?_ | refine VIf.ff ?_)
  refine VCode.loopG cxOK (fun m => m = fun _ => none) rfl (Int × Mem)
    (fun (⟨s, M1⟩ : Int × Mem) => ⟨[(0, .v (.func (.yield l) #[] #[])), (1, .v (.pointer (some ⟨Bc, 0, none⟩))), (2, .v (.pointer (some ⟨Bf, 0, none⟩))), (3, .v (.pointer (some ⟨Bt, 0, none⟩))), (4, .v (.pointer (some ⟨Bu, 0, none⟩))), (5, .v (.pointer (some ⟨Bl, 0, none⟩))), (6, .v (.pointer (some ⟨Bh, 0, none⟩))), (8, .v (.int .i64 s))],
      [], 0, M1, 36, ⟨fun _ => none, some (l, (bndF t (x1 / 10000) (y1 / 10000) (x2 / 10000) (y2 / 10000) s (clipS t ((n2 - t.fr) / 3600))).map fun f => [flV f]), fun _ => none⟩⟩)
    (fun s => M.le s.2 ∧ -2 ≤ s.1 ∧ s.1 ≤ 2000) (fun s => (c2 + 1 - s.1).toNat) (clipS t ((n1 - t.fr) / 3600), M) ⟨Mem.le_refl _, by simp only; omega, by simp only; omega⟩ (Wk.mk' id (by repeat' constructor) (by repeat' constructor) (injOK_id _) rfl rfl rfl) ?_
  rintro ⟨s, M1⟩ ⟨hM1, hs1, hs2⟩ m rfl
  have hM1 : M.le M1 := hM1
  have hs1 : -2 ≤ s := hs1
  have hs2 : s ≤ 2000 := hs2
  repeat (first | refine VIf.tt ?_ | refine VIf.ff ?_)
  refine VDraw.go (by kernel_rfl) ?_
  repeat (first | refine VIf.tt ?_ | refine VIf.ff ?_)
  refine VRead.mk _ (box1 (hM1 _ _ hBc)) ?_
  repeat (first | refine VIf.tt ?_ | refine VIf.ff ?_)
  refine VRead.mk _ (box1 (hM1 _ _ hBu)) ?_
  repeat (first | refine VIf.tt ?_ | refine VIf.ff ?_)
  refine VRead.mk _ (cellAt (hM1 _ _ hBt) 1 rfl) ?_
  repeat (first | refine VIf.tt ?_ | refine VIf.ff ?_)
  refine VArith.ok (by first | omega | (simp only; omega)) (by first | omega | (simp only; omega)) ?_
  repeat (first | refine VIf.tt ?_ | refine VIf.ff ?_)
  refine VFn.p (down_fn (n2 - t.fr) 3600 M1 (by omega) (by omega) (by omega) (by omega)) ?_
  repeat (first | refine VIf.tt ?_ | refine VIf.ff ?_)
  refine VFn.p (clip_fn t v _ Bt M1 (hM1 _ _ hBt)) ?_
  repeat (first | refine VIf.tt ?_ | refine VIf.ff ?_)
  refine VIf.mk (fun hle => ?_) (fun hgt => ?_)
  · have hle : s ≤ clipS t ((n2 - t.fr) / 3600) := of_decide_eq_true hle
    repeat (first | refine VIf.tt ?_ | refine VIf.ff ?_)
    refine VReads.mk (tdC t v).toList rfl (fun j u hj => cellAt (hM1 _ _ hBt) j (by simpa using hj)) ?_
    repeat (first | refine VIf.tt ?_ | refine VIf.ff ?_)
    refine VReads.mk [.int .i64 x1, .int .i64 y1] rfl (fun j u hj => cellAt (hM1 _ _ hBl) j (by simpa using hj)) ?_
    repeat (first | refine VIf.tt ?_ | refine VIf.ff ?_)
    refine VReads.mk [.int .i64 x2, .int .i64 y2] rfl (fun j u hj => cellAt (hM1 _ _ hBh) j (by simpa using hj)) ?_
    repeat (first | refine VIf.tt ?_ | refine VIf.ff ?_)
    refine VFn.mk _ (blocks_fn t v x1 y1 x2 y2 s M1 (hv.le hM1)) ?_
    rintro rs M2 hM2 ⟨B1, B2, B0, B3, rfl, k1, k2, k0, k3⟩
    have m2 := hM1.trans hM2
    repeat (first | refine VIf.tt ?_ | refine VIf.ff ?_)
    refine VFn.mk _ (joined_fn _ _ (blkL t (x1 / 10000) (x2 / 10000) (y1 / 10000) (y2 / 10000) s) M2 (blocks_iter t v x1 y1 x2 y2 s M2 (hv.le m2) ht h1 h2 B1 B2 B0 B3 k1 k2 k0 k3) (blk_ne (hmono hx) (hmono hy)) (fun f hf => (blk_all ht f hf).1) (fun f hf => (blk_all ht f hf).2)) ?_
    rintro rs M3 hM3 ⟨f, rfl, hJ⟩
    have m3 := m2.trans hM3
    have ef : joinL (blkL t (x1 / 10000) (x2 / 10000) (y1 / 10000) (y2 / 10000) s) = f := (joinL_isJ (blk_ne (hmono hx) (hmono hy)) fun f hf => (blk_all ht f hf).2).unique hJ fun _ => Iff.rfl
    repeat (first | refine VIf.tt ?_ | refine VIf.ff ?_)
    refine VYield.mk ((bndF t (x1 / 10000) (y1 / 10000) (x2 / 10000) (y2 / 10000) (s + 1) (clipS t ((n2 - t.fr) / 3600))).map fun f => [flV f]) ?_ ?_ ?_
    · simp only [Gh.mk.injEq, and_true, true_and, Option.some.injEq, Prod.mk.injEq]
      rw [bndF_cons hle, ef]; rfl
    · refine VIf.ff ?_
      repeat (first | refine VIf.tt ?_ | refine VIf.ff ?_)
      refine VArith.ok (by first | omega | (simp only; omega)) (by first | omega | (simp only; omega)) ?_
      exact ⟨rfl, (s + 1, M3), ⟨m3, by first | omega | (simp only; omega), by first | omega | (simp only; omega)⟩, by first | omega | (simp only; omega), (Wk.mk' id (by repeat' constructor) (by repeat' constructor) (injOK_id _) rfl rfl rfl)⟩
    · refine VIf.tt ?_
      exact VEnd.stop rfl
  · have hgt : ¬ s ≤ clipS t ((n2 - t.fr) / 3600) := of_decide_eq_false hgt
    exact VEnd.all (by rw [bndF_nil (by omega)]; rfl)
end Go.Proofs.Ytlppfikkgcfaoaa

/- Contracts of tide: Bound. -/
namespace Go.Proofs.Ytlppfikkgcfaoaa
open Go Go.V Go.RowKit
structure GoodT (t : TideS) (x1 y1 x2 y2 n1 n2 : Int) : Prop where
  ht : tideB t = true
  p1 : placeB (x1, y1) = true
  p2 : placeB (x2, y2) = true
  hx : x1 ≤ x2
  hy : y1 ≤ y2
  h1 : 0 ≤ n1
  h2 : n1 ≤ n2
  h3 : n2 ≤ 1000000000
theorem lo_nest {α β : Type} {l : β → Prop} {S : β → α → Prop} {c : α → Int} {g : β → Int} {a : Int} (h : (∀ x, l x → a ≤ g x) ∧ ∃ x, l x ∧ g x = a) (k : ∀ x, l x → (∀ y, S x y → g x ≤ c y) ∧ ∃ y, S x y ∧ c y = g x) : (∀ y, (∃ x, l x ∧ S x y) → a ≤ c y) ∧ ∃ y, (∃ x, l x ∧ S x y) ∧ c y = a := by
  refine ⟨fun y ⟨x, hx, hy⟩ => ?_, ?_⟩
  · have := h.1 x hx; have := (k x hx).1 y hy; omega
  · obtain ⟨x, hx, e⟩ := h.2
    obtain ⟨y, hy, e'⟩ := (k x hx).2
    exact ⟨y, ⟨x, hx, hy⟩, by omega⟩
theorem hi_nest {α β : Type} {l : β → Prop} {S : β → α → Prop} {c : α → Int} {g : β → Int} {a : Int} (h : (∀ x, l x → g x ≤ a) ∧ ∃ x, l x ∧ g x = a) (k : ∀ x, l x → (∀ y, S x y → c y ≤ g x) ∧ ∃ y, S x y ∧ c y = g x) : (∀ y, (∃ x, l x ∧ S x y) → c y ≤ a) ∧ ∃ y, (∃ x, l x ∧ S x y) ∧ c y = a := by
  refine ⟨fun y ⟨x, hx, hy⟩ => ?_, ?_⟩
  · have := h.1 x hx; have := (k x hx).1 y hy; omega
  · obtain ⟨x, hx, e⟩ := h.2
    obtain ⟨y, hy, e'⟩ := (k x hx).2
    exact ⟨y, ⟨x, hx, hy⟩, by omega⟩
theorem ex_map {β : Type} {l : β → Prop} {g : β → FlowS} {c : FlowS → Int} {a : Int} (h : ∃ f, (∃ x, l x ∧ g x = f) ∧ c f = a) : ∃ x, l x ∧ c (g x) = a := by
  obtain ⟨f, ⟨x, hx, rfl⟩, e⟩ := h
  exact ⟨x, hx, e⟩
theorem isJ_nest {β : Type} {l : β → Prop} {S : β → FlowS → Prop} {g : β → FlowS} {f : FlowS} (h : IsJ (fun y => ∃ x, l x ∧ g x = y) f) (k : ∀ x, l x → IsJ (S x) (g x)) : IsJ (fun y => ∃ x, l x ∧ S x y) f :=
  ⟨h.x, h.y, h.s, lo_nest (g := fun x => (g x).ul) ⟨fun x hx => h.ul.1 _ ⟨x, hx, rfl⟩, ex_map h.ul.2⟩ fun x hx => (k x hx).ul,
   hi_nest (g := fun x => (g x).uh) ⟨fun x hx => h.uh.1 _ ⟨x, hx, rfl⟩, ex_map h.uh.2⟩ fun x hx => (k x hx).uh,
   lo_nest (g := fun x => (g x).vl) ⟨fun x hx => h.vl.1 _ ⟨x, hx, rfl⟩, ex_map h.vl.2⟩ fun x hx => (k x hx).vl,
   hi_nest (g := fun x => (g x).vh) ⟨fun x hx => h.vh.1 _ ⟨x, hx, rfl⟩, ex_map h.vh.2⟩ fun x hx => (k x hx).vh,
   lo_nest (g := fun x => (g x).hl) ⟨fun x hx => h.hl.1 _ ⟨x, hx, rfl⟩, ex_map h.hl.2⟩ fun x hx => (k x hx).hl,
   hi_nest (g := fun x => (g x).hh) ⟨fun x hx => h.hh.1 _ ⟨x, hx, rfl⟩, ex_map h.hh.2⟩ fun x hx => (k x hx).hh⟩
theorem bnd_isJ {t : TideS} (ht : tideB t = true) {x1 x2 y1 y2 q1 q2 : Int} (hx : x1 ≤ x2) (hy : y1 ≤ y2) (hq : q1 ≤ q2) {f : FlowS} (h : IsJ (· ∈ bndF t x1 y1 x2 y2 (clipS t q1) (clipS t q2)) f) : IsJ (inB t x1 x2 y1 y2 q1 q2) f := by
  have h1 : IsJ (fun y => ∃ s, (s ∈ rng (clipS t q1) (clipS t q2)) ∧ joinL (blkL t x1 x2 y1 y2 s) = y) f := h.congr fun y => by unfold bndF; simp
  have h2 := isJ_nest (S := fun s y => y ∈ blkL t x1 x2 y1 y2 s) h1 fun s _ => joinL_isJ (blk_ne hx hy) fun g hg => (blk_all ht g hg).2
  refine h2.congr fun y => ?_
  rw [← inB_clip ht hq]
  constructor
  · rintro ⟨x, y', s, a1, a2, a3, a4, a5, a6, rfl⟩
    exact ⟨s, rng_mem.2 ⟨a5, a6⟩, blk_mem.2 ⟨x, y', s, a1, a2, a3, a4, Int.le_refl _, Int.le_refl _, rfl⟩⟩
  · rintro ⟨s, hs, hm⟩
    obtain ⟨x, y', s', a1, a2, a3, a4, a5, a6, rfl⟩ := blk_mem.1 hm
    have := rng_mem.1 hs
    exact ⟨x, y', s', a1, a2, a3, a4, by omega, by omega, rfl⟩
theorem bndF_all {t : TideS} (ht : tideB t = true) {x1 x2 y1 y2 c1 c2 : Int} (hx : x1 ≤ x2) (hy : y1 ≤ y2) : ∀ g ∈ bndF t x1 y1 x2 y2 c1 c2, bndB g = true ∧ g.x = 0 ∧ g.y = 0 ∧ g.s = 0 := fun g hg => by
  obtain ⟨s, _, rfl⟩ := List.mem_map.1 hg
  have h := joinL_isJ (blk_ne hx hy (t := t) (s := s)) fun g hg => (blk_all ht g hg).2
  exact ⟨h.bnd fun g hg => (blk_all ht g hg).1, h.x, h.y, h.s⟩
set_option maxRecDepth 20000 in
set_option maxHeartbeats 2000000 in
theorem Bound_fn (t : TideS) (v : Value) (x1 y1 x2 y2 n1 n2 : Int) (M : Mem) (hv : FlsV M v t.fl) : V.Fn Try.prog 16 [tdV t v, pt x1 y1, pt x2 y2, .int .i64 n1, .int .i64 n2] M fun rs _ =>
    (GoodT t x1 y1 x2 y2 n1 n2 ∧ ∃ f, rs = [flV f, .int .i64 0] ∧ IsJ (inB t (x1 / 10000) (x2 / 10000) (y1 / 10000) (y2 / 10000) ((n1 - t.fr) / 3600) ((n2 - t.fr) / 3600)) f) ∨ (¬ GoodT t x1 y1 x2 y2 n1 n2 ∧ rs = [flV zeroF, .int .i64 1]) := by
  have hv' := hv
  obtain ⟨ad, c, rfl, hm, hrd⟩ := hv.get
  refine Fn.of_vc cxOK Try.func16 rfl rfl rfl ?_
  repeat (first | refine VIf.tt ?_ | refine VIf.ff ?_)
  refine VFn.mk _ (validT_fn t _ M hv') ?_
  rintro rs M1 hM1 rfl
  repeat (first | refine VIf.tt ?_ | refine VIf.ff ?_)
  refine VIf.mk (fun e1 => ?_) (fun e1 => ?_)
  · repeat (first | refine VIf.tt ?_ | refine VIf.ff ?_)
    exact VFact.mk (.inr ⟨fun h => (by rw [h.ht] at e1; cases e1), rfl⟩) trivial
  repeat (first | refine VIf.tt ?_ | refine VIf.ff ?_)
  refine VFn.p (tidePlace_fn x1 y1 M1) ?_
  repeat (first | refine VIf.tt ?_ | refine VIf.ff ?_)
  refine VIf.mk (fun e2 => ?_) (fun e2 => ?_)
  · repeat (first | refine VIf.tt ?_ | refine VIf.ff ?_)
    exact VFact.mk (.inr ⟨fun h => (by rw [show (isCb x1 && isCb y1) = true from h.p1] at e2; cases e2), rfl⟩) trivial
  repeat (first | refine VIf.tt ?_ | refine VIf.ff ?_)
  refine VFn.p (tidePlace_fn x2 y2 M1) ?_
  repeat (first | refine VIf.tt ?_ | refine VIf.ff ?_)
  refine VIf.mk (fun e3 => ?_) (fun e3 => ?_)
  · repeat (first | refine VIf.tt ?_ | refine VIf.ff ?_)
    exact VFact.mk (.inr ⟨fun h => (by rw [show (isCb x2 && isCb y2) = true from h.p2] at e3; cases e3), rfl⟩) trivial
  repeat (first | refine VIf.tt ?_ | refine VIf.ff ?_)
  refine VIf.mk (fun e4 => ?_) (fun e4 => ?_)
  · repeat (first | refine VIf.tt ?_ | refine VIf.ff ?_)
    exact VFact.mk (.inr ⟨fun h => (by have := h.hx; have := of_decide_eq_true e4; omega), rfl⟩) trivial
  repeat (first | refine VIf.tt ?_ | refine VIf.ff ?_)
  refine VIf.mk (fun e5 => ?_) (fun e5 => ?_)
  · repeat (first | refine VIf.tt ?_ | refine VIf.ff ?_)
    exact VFact.mk (.inr ⟨fun h => (by have := h.hy; have := of_decide_eq_true e5; omega), rfl⟩) trivial
  repeat (first | refine VIf.tt ?_ | refine VIf.ff ?_)
  refine VFn.p (isTime_fn n1 M1) ?_
  repeat (first | refine VIf.tt ?_ | refine VIf.ff ?_)
  refine VIf.mk (fun e6 => ?_) (fun e6 => ?_)
  · repeat (first | refine VIf.tt ?_ | refine VIf.ff ?_)
    exact VFact.mk (.inr ⟨fun h => (by rw [decide_eq_true ⟨h.h1, Int.le_trans h.h2 h.h3⟩] at e6; cases e6), rfl⟩) trivial
  repeat (first | refine VIf.tt ?_ | refine VIf.ff ?_)
  refine VFn.p (isTime_fn n2 M1) ?_
  repeat (first | refine VIf.tt ?_ | refine VIf.ff ?_)
  refine VIf.mk (fun e7 => ?_) (fun e7 => ?_)
  · repeat (first | refine VIf.tt ?_ | refine VIf.ff ?_)
    exact VFact.mk (.inr ⟨fun h => (by rw [decide_eq_true ⟨Int.le_trans h.h1 h.h2, h.h3⟩] at e7; cases e7), rfl⟩) trivial
  repeat (first | refine VIf.tt ?_ | refine VIf.ff ?_)
  refine VIf.mk (fun e8 => ?_) (fun e8 => ?_)
  · repeat (first | refine VIf.tt ?_ | refine VIf.ff ?_)
    exact VFact.mk (.inr ⟨fun h => (by have := h.h2; have := of_decide_eq_true e8; omega), rfl⟩) trivial
  have good : GoodT t x1 y1 x2 y2 n1 n2 := by
    have a6 := of_decide_eq_true ((Bool.not_eq_false' _).mp e6)
    have a7 := of_decide_eq_true ((Bool.not_eq_false' _).mp e7)
    have a4 := of_decide_eq_false e4
    have a5 := of_decide_eq_false e5
    have a8 := of_decide_eq_false e8
    exact ⟨(Bool.not_eq_false' _).mp e1, (Bool.not_eq_false' _).mp e2, (Bool.not_eq_false' _).mp e3, by omega, by omega, a6.1, by omega, a7.2⟩
  repeat (first | refine VIf.tt ?_ | refine VIf.ff ?_)
  refine VOwn.frz ?_
  repeat (first | refine VIf.tt ?_ | refine VIf.ff ?_)
  refine VFzB.mk fun z1 C1 N1 hN1 hC1 => ?_
  repeat (first | refine VIf.tt ?_ | refine VIf.ff ?_)
  refine VFzB.mk fun z2 C2 N2 hN2 hC2 => ?_
  repeat (first | refine VIf.tt ?_ | refine VIf.ff ?_)
  refine VFzB.mk fun z3 C3 N3 hN3 hC3 => ?_
  repeat (first | refine VIf.tt ?_ | refine VIf.ff ?_)
  refine VFzB.mk fun z4 C4 N4 hN4 hC4 => ?_
  repeat (first | refine VIf.tt ?_ | refine VIf.ff ?_)
  refine VFzB.mk fun z5 C5 N5 hN5 hC5 => ?_
  repeat (first | refine VIf.tt ?_ | refine VIf.ff ?_)
  refine VFzB.mk fun z6 C6 N6 hN6 hC6 => ?_
  have hC1 : N1 C1 = some (.cells (tdC t (.slice ad t.fl.length c)) 28 (0, 0)) := hC1
  have hC2 : N2 C2 = some (.cells #[.func (.func 46) #[] #[.pointer (some ⟨C1, 0, none⟩)]] 42 (0, 0)) := hC2
  have hC3 : N3 C3 = some (.cells #[.int .i64 n1] 3 (0, 0)) := hC3
  have hC4 : N4 C4 = some (.cells #[.int .i64 n2] 3 (0, 0)) := hC4
  have hC5 : N5 C5 = some (.cells #[.int .i64 x1, .int .i64 y1] 30 (0, 0)) := hC5
  have hC6 : N6 C6 = some (.cells #[.int .i64 x2, .int .i64 y2] 30 (0, 0)) := hC6
  have w5 := hN6
  have w4 := hN5.trans w5
  have w3 := hN4.trans w4
  have w2 := hN3.trans w3
  have w1 := hN2.trans w2
  have w0 := hN1.trans w1
  have hq : (n1 - t.fr) / 3600 ≤ (n2 - t.fr) / 3600 := by have := good.h2; omega
  have hx' : x1 / 10000 ≤ x2 / 10000 := by have := good.hx; omega
  have hy' : y1 / 10000 ≤ y2 / 10000 := by have := good.hy; omega
  have hcl : clipS t ((n1 - t.fr) / 3600) ≤ clipS t ((n2 - t.fr) / 3600) := clip_mono hq
  repeat (first | refine VIf.tt ?_ | refine VIf.ff ?_)
  refine VFn.mk _ (joined_fn _ _ _ N6 (bound_iter t _ x1 y1 x2 y2 n1 n2 N6 (hv'.le (hM1.trans w0)) good.ht good.p1 good.p2 good.hx good.hy ⟨good.h1, good.h2, good.h3⟩ C2 C3 C1 C4 C5 C6 (w2 _ _ hC2) (w3 _ _ hC3) (w1 _ _ hC1) (w4 _ _ hC4) (w5 _ _ hC5) hC6)
    (by rw [bndF_cons hcl]; simp) (fun f hf => (bndF_all good.ht hx' hy' f hf).1) (fun f hf => (bndF_all good.ht hx' hy' f hf).2)) ?_
  rintro rs M3 hM3 ⟨f, rfl, hJ⟩
  repeat (first | refine VIf.tt ?_ | refine VIf.ff ?_)
  exact VFact.mk (.inl ⟨good, f, rfl, bnd_isJ good.ht hx' hy' hq hJ⟩) trivial
end Go.Proofs.Ytlppfikkgcfaoaa

/- Contracts of the tide's reference: what is usable. -/
namespace Go.Proofs.Ytlppfikkgcfaoaa
open Go Go.V Go.RowKit
theorem at_fn13 (x y : Int) (M : Mem) : FnP Try.prog 22 [.int .i64 x, .int .i64 y] M [pt x y] := by
  refine Fn.of_vc cxOK Try.func22 rfl rfl rfl ?_
  repeat (first | refine VIf.tt ?_ | refine VIf.ff ?_)
  exact VFact.mk ⟨rfl, rfl⟩ trivial
theorem In01_fn (n lo hi : Int) (M : Mem) : FnP Try.prog 83 [.int .i64 n, .int .i64 lo, .int .i64 hi] M [.bool (decide (lo ≤ n ∧ n ≤ hi))] := by
  refine Fn.of_vc cxOK Try.func83 rfl rfl rfl ?_
  repeat' (first | refine VIf.tt ?_ | refine VIf.ff ?_ | refine VIf.mk (fun _ => ?_) (fun _ => ?_) | refine VFact.mk ?_ trivial)
  all_goals (refine ⟨bool1 ?_, rfl⟩; simp only [Bool.and_eq_true, decide_eq_true_eq, decide_eq_false_iff_not, Bool.false_eq_true, false_iff] at *; omega)
theorem within13_fn (a b lo hi : Int) (M : Mem) : FnP Try.prog 109 [.agg #[.int .i64 a, .int .i64 b], .int .i64 lo, .int .i64 hi] M [.bool (decide (lo ≤ a ∧ a ≤ b ∧ b ≤ hi))] := by
  refine Fn.of_vc cxOK Try.func109 rfl rfl rfl ?_
  repeat' (first | refine VIf.tt ?_ | refine VIf.ff ?_ | refine VIf.mk (fun _ => ?_) (fun _ => ?_) | refine VFact.mk ?_ trivial)
  all_goals (refine ⟨bool1 ?_, rfl⟩; simp only [Bool.and_eq_true, decide_eq_true_eq, decide_eq_false_iff_not, Bool.false_eq_true, false_iff] at *; omega)
theorem Time13_fn (a b : Int) (M : Mem) : FnP Try.prog 43 [.int .i64 a, .int .i64 b] M [.bool (decide (0 ≤ a ∧ a ≤ b ∧ b ≤ 1000000000))] := by
  refine Fn.of_vc cxOK Try.func43 rfl rfl rfl ?_
  repeat' (first | refine VIf.tt ?_ | refine VIf.ff ?_ | refine VIf.mk (fun _ => ?_) (fun _ => ?_) | refine VFact.mk ?_ trivial)
  all_goals (refine ⟨bool1 ?_, rfl⟩; simp only [Bool.and_eq_true, decide_eq_true_eq, decide_eq_false_iff_not, Bool.false_eq_true, false_iff] at *; omega)
theorem before13_fn (a b : FlowS) (M : Mem) : FnP Try.prog 84 [flV a, flV b] M [.bool (decide (cmpF a b < 0))] := by
  refine Fn.of_vc cxOK Try.func84 rfl rfl rfl ?_
  repeat' (first | refine VIf.tt ?_ | refine VIf.ff ?_ | refine VIf.mk (fun _ => ?_) (fun _ => ?_) | refine VFact.mk ?_ trivial)
  all_goals (refine ⟨bool1 ?_, rfl⟩; simp only [cmpF_lt, bne_iff_ne, bne_eq_false_iff_eq, decide_eq_true_eq] at *; omega)
theorem SpanIn_fn (a b c d : Int) (M : Mem) : FnP Try.prog 90 [.agg #[.int .i64 a, .int .i64 b], .agg #[.int .i64 c, .int .i64 d]] M [.bool (decide (c ≤ a ∧ b ≤ d))] := by
  refine Fn.of_vc cxOK Try.func90 rfl rfl rfl ?_
  repeat' (first | refine VIf.tt ?_ | refine VIf.ff ?_ | refine VIf.mk (fun _ => ?_) (fun _ => ?_) | refine VFact.mk ?_ trivial)
  all_goals (refine ⟨bool1 ?_, rfl⟩; simp only [Bool.and_eq_true, decide_eq_true_eq, decide_eq_false_iff_not, Bool.false_eq_true, false_iff] at *; omega)
theorem SpanIn13_fn (a b c d : Int) (M : Mem) : FnP Try.prog 54 [.agg #[.int .i64 a, .int .i64 b], .agg #[.int .i64 c, .int .i64 d]] M [.bool (decide (c ≤ a ∧ b ≤ d))] := by
  refine Fn.of_vc cxOK Try.func54 rfl rfl rfl ?_
  repeat (first | refine VIf.tt ?_ | refine VIf.ff ?_)
  refine VFn.p (SpanIn_fn a b c d M) ?_
  repeat (first | refine VIf.tt ?_ | refine VIf.ff ?_)
  exact VFact.mk ⟨rfl, rfl⟩ trivial
def inFB (a b : FlowS) : Bool := decide (b.ul ≤ a.ul ∧ a.uh ≤ b.uh) && decide (b.vl ≤ a.vl ∧ a.vh ≤ b.vh) && decide (b.hl ≤ a.hl ∧ a.hh ≤ b.hh)
theorem inFB_of {a b : FlowS} (h : inF a b) : inFB a b = true := by
  unfold inF at h
  simp only [inFB, Bool.and_eq_true, decide_eq_true_eq]; omega
theorem FlowIn_fn (a b : FlowS) (M : Mem) : FnP Try.prog 19 [flV a, flV b] M [.bool (inFB a b)] := by
  refine Fn.of_vc cxOK Try.func19 rfl rfl rfl ?_
  unfold inFB
  repeat (first | refine VIf.tt ?_ | refine VIf.ff ?_)
  refine VFn.p (SpanIn13_fn _ _ _ _ M) ?_
  repeat (first | refine VIf.tt ?_ | refine VIf.ff ?_)
  refine VFn.p (SpanIn13_fn _ _ _ _ M) ?_
  repeat (first | refine VIf.tt ?_ | refine VIf.ff ?_)
  refine VIf.mk (fun h1 => ?_) (fun h1 => ?_)
  · repeat (first | refine VIf.tt ?_ | refine VIf.ff ?_)
    refine VIf.mk (fun h2 => ?_) (fun h2 => ?_)
    · repeat (first | refine VIf.tt ?_ | refine VIf.ff ?_)
      refine VFn.p (SpanIn13_fn _ _ _ _ M) ?_
      repeat (first | refine VIf.tt ?_ | refine VIf.ff ?_)
      exact VFact.mk ⟨by rw [h1, h2]; rfl, rfl⟩ trivial
    · repeat (first | refine VIf.tt ?_ | refine VIf.ff ?_)
      exact VFact.mk ⟨by rw [h1, h2]; rfl, rfl⟩ trivial
  · repeat (first | refine VIf.tt ?_ | refine VIf.ff ?_)
    exact VFact.mk ⟨by rw [h1]; rfl, rfl⟩ trivial
end Go.Proofs.Ytlppfikkgcfaoaa

/- Contracts of the tide's reference: bounds, rectangle, few, valid; what the laws look at. -/
namespace Go.Proofs.Ytlppfikkgcfaoaa
open Go Go.V Go.RowKit
theorem Bounds13_fn (f : FlowS) (M : Mem) : FnP Try.prog 82 [flV f] M [.bool (bndB f)] := by
  refine Fn.of_vc cxOK Try.func82 rfl rfl rfl ?_
  repeat (first | refine VIf.tt ?_ | refine VIf.ff ?_)
  refine VFn.p (within13_fn _ _ _ _ M) ?_
  repeat (first | refine VIf.tt ?_ | refine VIf.ff ?_)
  refine VFn.p (within13_fn _ _ _ _ M) ?_
  have e : ∀ m a b : Int, decide (-m ≤ a ∧ a ≤ b ∧ b ≤ m) = spB m a b := fun m a b => by
    unfold spB
    rw [Bool.eq_iff_iff, decide_eq_true_eq, decide_eq_true_eq]; omega
  have e1 := e 5000 f.ul f.uh
  have e2 := e 5000 f.vl f.vh
  have e3 := e 2000 f.hl f.hh
  repeat (first | refine VIf.tt ?_ | refine VIf.ff ?_)
  refine VIf.mk (fun h1 => ?_) (fun h1 => ?_)
  · repeat (first | refine VIf.tt ?_ | refine VIf.ff ?_)
    refine VIf.mk (fun h2 => ?_) (fun h2 => ?_)
    · repeat (first | refine VIf.tt ?_ | refine VIf.ff ?_)
      refine VFn.p (within13_fn _ _ _ _ M) ?_
      repeat (first | refine VIf.tt ?_ | refine VIf.ff ?_)
      refine VFact.mk ⟨?_, rfl⟩ trivial
      unfold bndB
      rw [← e1, ← e2, ← e3, h1, h2]; rfl
    · repeat (first | refine VIf.tt ?_ | refine VIf.ff ?_)
      refine VFact.mk ⟨?_, rfl⟩ trivial
      unfold bndB
      rw [← e1, ← e2, h1, h2]; rfl
  · repeat (first | refine VIf.tt ?_ | refine VIf.ff ?_)
    refine VFact.mk ⟨?_, rfl⟩ trivial
    unfold bndB
    rw [← e1, h1]; rfl
def rectB (x1 y1 x2 y2 : Int) : Bool := placeB (x1, y1) && placeB (x2, y2) && decide (x1 ≤ x2) && decide (y1 ≤ y2)
theorem Rect_fn (x1 y1 x2 y2 : Int) (M : Mem) : FnP Try.prog 42 [pt x1 y1, pt x2 y2] M [.bool (rectB x1 y1 x2 y2)] := by
  refine Fn.of_vc cxOK Try.func42 rfl rfl rfl ?_
  repeat (first | refine VIf.tt ?_ | refine VIf.ff ?_)
  refine VFn.p (Place_fn x1 y1 M) ?_
  repeat (first | refine VIf.tt ?_ | refine VIf.ff ?_)
  refine VFn.p (Place_fn x2 y2 M) ?_
  have e1 : placeB (x1, y1) = (isCb x1 && isCb y1) := rfl
  have e2 : placeB (x2, y2) = (isCb x2 && isCb y2) := rfl
  unfold rectB
  rw [e1, e2]
  repeat (first | refine VIf.tt ?_ | refine VIf.ff ?_)
  refine VIf.mk (fun h1 => ?_) (fun h1 => ?_)
  · repeat (first | refine VIf.tt ?_ | refine VIf.ff ?_)
    refine VIf.mk (fun h2 => ?_) (fun h2 => ?_)
    · repeat (first | refine VIf.tt ?_ | refine VIf.ff ?_)
      refine VIf.mk (fun h3 => ?_) (fun h3 => ?_)
      · repeat (first | refine VIf.tt ?_ | refine VIf.ff ?_)
        exact VFact.mk ⟨by rw [h1, h2, h3]; rfl, rfl⟩ trivial
      · repeat (first | refine VIf.tt ?_ | refine VIf.ff ?_)
        exact VFact.mk ⟨by rw [h1, h2, h3]; rfl, rfl⟩ trivial
    · repeat (first | refine VIf.tt ?_ | refine VIf.ff ?_)
      exact VFact.mk ⟨by rw [h1, h2]; rfl, rfl⟩ trivial
  · repeat (first | refine VIf.tt ?_ | refine VIf.ff ?_)
    exact VFact.mk ⟨by rw [h1]; rfl, rfl⟩ trivial
end Go.Proofs.Ytlppfikkgcfaoaa

/- Contracts of the tide's reference: few, valid, usable. -/
namespace Go.Proofs.Ytlppfikkgcfaoaa
open Go Go.V Go.RowKit
theorem place13_bd {x y : Int} (h : placeB (x, y) = true) : -500000 ≤ x ∧ x ≤ 500000 ∧ -500000 ≤ y ∧ y ≤ 500000 := by
  simp only [placeB, Bool.and_eq_true] at h
  have h1 := isCb_bd h.1
  have h2 := isCb_bd h.2
  exact ⟨h1.1, h1.2, h2.1, h2.2⟩
theorem rect_get {x1 y1 x2 y2 : Int} (h : rectB x1 y1 x2 y2 = true) : placeB (x1, y1) = true ∧ placeB (x2, y2) = true ∧ x1 ≤ x2 ∧ y1 ≤ y2 := by
  simp only [rectB, Bool.and_eq_true, decide_eq_true_eq] at h
  exact ⟨h.1.1.1, h.1.1.2, h.1.2, h.2⟩
theorem Few13_fn (t : TideS) (v : Value) (x1 y1 x2 y2 n1 n2 : Int) (M : Mem) (hv : FlsV M v t.fl) : FnP Try.prog 42 [pt x1 y1, pt x2 y2] M [.bool (rectB x1 y1 x2 y2)] ∧ V.Fn Try.prog 40 [tdV t v, pt x1 y1, pt x2 y2, .int .i64 n1, .int .i64 n2] M fun rs _ => ∃ b, rs = [.bool b] := by
  refine ⟨Rect_fn x1 y1 x2 y2 M, ?_⟩
  obtain ⟨ad, c, rfl, hm, hrd⟩ := hv.get
  refine Fn.of_vc cxOK Try.func40 rfl rfl rfl ?_
  obtain ⟨r, hr⟩ : ∃ r, rectB x1 y1 x2 y2 = r := ⟨_, rfl⟩
  have hR := Rect_fn x1 y1 x2 y2 M
  rw [hr] at hR
  repeat (first | refine VIf.tt ?_ | refine VIf.ff ?_)
  refine VFn.p hR ?_
  repeat (first | refine VIf.tt ?_ | refine VIf.ff ?_)
  refine VIf.mk (fun _ => ?_) (fun _ => ?_)
  · repeat (first | refine VIf.tt ?_ | refine VIf.ff ?_)
    exact VFact.mk ⟨_, rfl⟩ trivial
  repeat (first | refine VIf.tt ?_ | refine VIf.ff ?_)
  refine VIf.mk (fun _ => ?_) (fun _ => ?_)
  · repeat (first | refine VIf.tt ?_ | refine VIf.ff ?_)
    exact VFact.mk ⟨_, rfl⟩ trivial
  repeat (first | refine VIf.tt ?_ | refine VIf.ff ?_)
  refine VIf.mk (fun _ => ?_) (fun hr' => ?_)
  · repeat (first | refine VIf.tt ?_ | refine VIf.ff ?_)
    exact VFact.mk ⟨_, rfl⟩ trivial
  have hr' : r = true := by simpa using hr'
  subst hr'
  obtain ⟨p1, p2, hx, hy⟩ := rect_get hr
  have b1 := place13_bd p1
  have b2 := place13_bd p2
  repeat (first | refine VIf.tt ?_ | refine VIf.ff ?_)
  refine VFn.p (Time13_fn n1 n2 M) ?_
  repeat (first | refine VIf.tt ?_ | refine VIf.ff ?_)
  refine VIf.mk (fun _ => ?_) (fun ht => ?_)
  · repeat (first | refine VIf.tt ?_ | refine VIf.ff ?_)
    exact VFact.mk ⟨_, rfl⟩ trivial
  have ht := of_decide_eq_true ((Bool.not_eq_false' _).mp ht)
  have d1 := tdiv_bd (a := x2 - x1) (b := 10000) (by omega) (by omega) (by omega)
  have d2 := tdiv_bd (a := y2 - y1) (b := 10000) (by omega) (by omega) (by omega)
  have d3 := tdiv_bd (a := n2 - n1) (b := 3600) (by omega) (by omega) (by omega)
  repeat (first | refine VIf.tt ?_ | refine VIf.ff ?_)
  refine VArith.ok (by first | omega | (simp only; omega)) (by first | omega | (simp only; omega)) ?_
  repeat (first | refine VIf.tt ?_ | refine VIf.ff ?_)
  refine VDiv.mk (by decide) ?_
  repeat (first | refine VIf.tt ?_ | refine VIf.ff ?_)
  refine VArith.ok (by first | omega | (simp only; omega)) (by first | omega | (simp only; omega)) ?_
  repeat (first | refine VIf.tt ?_ | refine VIf.ff ?_)
  refine VIf.mk (fun _ => ?_) (fun _ => ?_)
  rotate_left
  · repeat (first | refine VIf.tt ?_ | refine VIf.ff ?_)
    repeat (first | refine VIf.tt ?_ | refine VIf.ff ?_)
    exact VFact.mk ⟨_, rfl⟩ trivial
  repeat (first | refine VIf.tt ?_ | refine VIf.ff ?_)
  refine VArith.ok (by first | omega | (simp only; omega)) (by first | omega | (simp only; omega)) ?_
  repeat (first | refine VIf.tt ?_ | refine VIf.ff ?_)
  refine VDiv.mk (by decide) ?_
  repeat (first | refine VIf.tt ?_ | refine VIf.ff ?_)
  refine VArith.ok (by first | omega | (simp only; omega)) (by first | omega | (simp only; omega)) ?_
  repeat (first | refine VIf.tt ?_ | refine VIf.ff ?_)
  refine VIf.mk (fun _ => ?_) (fun _ => ?_)
  rotate_left
  · repeat (first | refine VIf.tt ?_ | refine VIf.ff ?_)
    repeat (first | refine VIf.tt ?_ | refine VIf.ff ?_)
    exact VFact.mk ⟨_, rfl⟩ trivial
  repeat (first | refine VIf.tt ?_ | refine VIf.ff ?_)
  refine VArith.ok (by first | omega | (simp only; omega)) (by first | omega | (simp only; omega)) ?_
  repeat (first | refine VIf.tt ?_ | refine VIf.ff ?_)
  refine VDiv.mk (by decide) ?_
  repeat (first | refine VIf.tt ?_ | refine VIf.ff ?_)
  refine VArith.ok (by first | omega | (simp only; omega)) (by first | omega | (simp only; omega)) ?_
  repeat (first | refine VIf.tt ?_ | refine VIf.ff ?_)
  exact VFact.mk ⟨_, rfl⟩ trivial
end Go.Proofs.Ytlppfikkgcfaoaa

/- Contracts of the tide's reference: valid editions. -/
namespace Go.Proofs.Ytlppfikkgcfaoaa
open Go Go.V Go.RowKit
set_option maxRecDepth 20000 in
set_option maxHeartbeats 2000000 in
theorem validR13_fn (t : TideS) (v : Value) (M : Mem) (hv : FlsV M v t.fl) : FnP Try.prog 41 [tdV t v] M [.bool (tideB t)] := by
  obtain ⟨ad, c, rfl, hm, hrd⟩ := hv.get
  have no : (tideB t = true → False) → [Value.bool false] = [.bool (tideB t)] ∧ M = M := fun h => ⟨noT h, rfl⟩
  refine Fn.of_vc cxOK Try.func41 rfl rfl rfl ?_
  repeat (first | refine VIf.tt ?_ | refine VIf.ff ?_)
  refine VFn.p (Bounds13_fn t.rest M) ?_
  repeat (first | refine VIf.tt ?_ | refine VIf.ff ?_)
  refine VFn.p (In01_fn t.ver 1 1000000 M) ?_
  repeat (first | refine VIf.tt ?_ | refine VIf.ff ?_)
  refine VFn.p (In01_fn t.fr 0 1000000000 M) ?_
  repeat (first | refine VIf.tt ?_ | refine VIf.ff ?_)
  refine VFn.p (In01_fn t.sl 0 1000 M) ?_
  repeat (first | refine VIf.tt ?_ | refine VIf.ff ?_)
  refine VIf.mk (fun e1 => ?_) (fun e1 => ?_)
  · repeat (first | refine VIf.tt ?_ | refine VIf.ff ?_)
    exact VFact.mk (no fun h => by have h := (tide_get h).2.1; rw [h] at e1; cases e1) trivial
  repeat (first | refine VIf.tt ?_ | refine VIf.ff ?_)
  refine VIf.mk (fun e2 => ?_) (fun e2 => ?_)
  · repeat (first | refine VIf.tt ?_ | refine VIf.ff ?_)
    exact VFact.mk (no fun h => by have h := (tide_get h).1; simp only [Bool.not_eq_true', decide_eq_false_iff_not] at e2; omega) trivial
  repeat (first | refine VIf.tt ?_ | refine VIf.ff ?_)
  refine VIf.mk (fun e3 => ?_) (fun e3 => ?_)
  · repeat (first | refine VIf.tt ?_ | refine VIf.ff ?_)
    exact VFact.mk (no fun h => by have h := (tide_get h).1; simp only [Bool.not_eq_true', decide_eq_false_iff_not] at e3; omega) trivial
  repeat (first | refine VIf.tt ?_ | refine VIf.ff ?_)
  refine VIf.mk (fun e4 => ?_) (fun e4 => ?_)
  · repeat (first | refine VIf.tt ?_ | refine VIf.ff ?_)
    exact VFact.mk (no fun h => by have h := (tide_get h).1; simp only [Bool.not_eq_true', decide_eq_false_iff_not] at e4; omega) trivial
  repeat (first | refine VIf.tt ?_ | refine VIf.ff ?_)
  refine VIf.mk (fun e5 => ?_) (fun e5 => ?_)
  · repeat (first | refine VIf.tt ?_ | refine VIf.ff ?_)
    exact VFact.mk (no fun h => by have h := (tide_get h).1; exact bne_iff_ne.1 e5 h.2.2.2.2.2.2.2.1) trivial
  repeat (first | refine VIf.tt ?_ | refine VIf.ff ?_)
  refine VIf.mk (fun e6 => ?_) (fun e6 => ?_)
  · repeat (first | refine VIf.tt ?_ | refine VIf.ff ?_)
    exact VFact.mk (no fun h => by have h := (tide_get h).1; exact bne_iff_ne.1 e6 h.2.2.2.2.2.2.2.2.1) trivial
  repeat (first | refine VIf.tt ?_ | refine VIf.ff ?_)
  refine VIf.mk (fun e7 => ?_) (fun e7 => ?_)
  · repeat (first | refine VIf.tt ?_ | refine VIf.ff ?_)
    exact VFact.mk (no fun h => by have h := (tide_get h).1; exact bne_iff_ne.1 e7 h.2.2.2.2.2.2.2.2.2) trivial
  repeat (first | refine VIf.tt ?_ | refine VIf.ff ?_)
  refine VIf.mk (fun e8 => ?_) (fun e8 => ?_)
  · repeat (first | refine VIf.tt ?_ | refine VIf.ff ?_)
    exact VFact.mk (no fun h => by have h := (tide_get h).1; have := of_decide_eq_true e8; omega) trivial
  repeat (first | refine VIf.tt ?_ | refine VIf.ff ?_)
  refine VCode.loop cxOK Nat (fun i => ⟨[(1, .box 0 0), (7, .v (.int .i64 i))], [(0, some (.box 28 [.v (.int .i64 t.ver), .v (.int .i64 t.fr), .v (.int .i64 t.sl), .v (.int .i64 t.rest.x), .v (.int .i64 t.rest.y), .v (.int .i64 t.rest.s), .v (.int .i64 t.rest.ul), .v (.int .i64 t.rest.uh), .v (.int .i64 t.rest.vl), .v (.int .i64 t.rest.vh), .v (.int .i64 t.rest.hl), .v (.int .i64 t.rest.hh), .v (.slice ad t.fl.length c)]))], 1, M, 117, ⟨fun _ => none, none, fun _ => none⟩⟩)
    (fun i => i ≤ t.fl.length ∧ ∀ j, j < i → flowB t j = true) (fun i => t.fl.length - i) 0 ⟨Nat.zero_le _, fun j hj => by simp at hj⟩ (Wk.mk' id (by repeat' constructor) (by repeat' constructor) (injOK_id _) rfl rfl rfl) ?_
  rintro i ⟨hi, hz⟩ m
  repeat (first | refine VIf.tt ?_ | refine VIf.ff ?_)
  refine VIf.mk (fun hlt => ?_) (fun hge => ?_)
  · have hlt : i < t.fl.length := lt_of_dec hlt
    obtain ⟨ad', ead, hr⟩ := hrd M (Mem.le_refl _) i hlt
    repeat (first | refine VIf.tt ?_ | refine VIf.ff ?_)
    refine VIdx.mk ad' i ead rfl hlt ?_
    repeat (first | refine VIf.tt ?_ | refine VIf.ff ?_)
    refine VReads.mk (flC (gf t.fl i)) rfl hr ?_
    have bads : (flowB t i = true → False) → [Value.bool false] = [.bool (tideB t)] ∧ M = M := fun h => no fun h' => h ((tide_get h').2.2 i hlt)
    obtain ⟨g, hg⟩ : ∃ g, gf t.fl i = g := ⟨_, rfl⟩
    rw [hg]
    have key : flowB t i = true → (-50 ≤ g.x ∧ g.x ≤ 50 ∧ -50 ≤ g.y ∧ g.y ≤ 50 ∧ 0 ≤ g.s ∧ g.s < t.sl) ∧ bndB g = true ∧ (i = 0 ∨ cmpF (gf t.fl (i - 1)) g < 0) := fun h => by
      simp only [flowB, hg, Bool.and_eq_true, Bool.or_eq_true, decide_eq_true_eq, beq_iff_eq] at h
      exact ⟨h.1.1, h.1.2, h.2⟩
    repeat (first | refine VIf.tt ?_ | refine VIf.ff ?_)
    refine VFn.p (Bounds13_fn g M) ?_
    repeat (first | refine VIf.tt ?_ | refine VIf.ff ?_)
    refine VFn.p (In01_fn g.x (-50) 50 M) ?_
    repeat (first | refine VIf.tt ?_ | refine VIf.ff ?_)
    refine VFn.p (In01_fn g.y (-50) 50 M) ?_
    repeat (first | refine VIf.tt ?_ | refine VIf.ff ?_)
    refine VIf.mk (fun f1 => ?_) (fun f1 => ?_)
    · repeat (first | refine VIf.tt ?_ | refine VIf.ff ?_)
      exact VFact.mk (bads fun h => by have := (key h).2.1; rw [this] at f1; cases f1) trivial
    repeat (first | refine VIf.tt ?_ | refine VIf.ff ?_)
    refine VIf.mk (fun f2 => ?_) (fun f2 => ?_)
    · repeat (first | refine VIf.tt ?_ | refine VIf.ff ?_)
      exact VFact.mk (bads fun h => by have := (key h).1; simp only [Bool.not_eq_true', decide_eq_false_iff_not] at f2; omega) trivial
    repeat (first | refine VIf.tt ?_ | refine VIf.ff ?_)
    refine VIf.mk (fun f3 => ?_) (fun f3 => ?_)
    · repeat (first | refine VIf.tt ?_ | refine VIf.ff ?_)
      exact VFact.mk (bads fun h => by have := (key h).1; simp only [Bool.not_eq_true', decide_eq_false_iff_not] at f3; omega) trivial
    repeat (first | refine VIf.tt ?_ | refine VIf.ff ?_)
    refine VIf.mk (fun f5 => ?_) (fun f5 => ?_)
    · repeat (first | refine VIf.tt ?_ | refine VIf.ff ?_)
      exact VFact.mk (bads fun h => by have := (key h).1; have := of_decide_eq_true f5; omega) trivial
    repeat (first | refine VIf.tt ?_ | refine VIf.ff ?_)
    refine VIf.mk (fun f6 => ?_) (fun f6 => ?_)
    · repeat (first | refine VIf.tt ?_ | refine VIf.ff ?_)
      exact VFact.mk (bads fun h => by have := (key h).1; have := of_decide_eq_true f6; omega) trivial
    have okF : (i = 0 ∨ cmpF (gf t.fl (i - 1)) g < 0) → ∀ j, j < i + 1 → flowB t j = true := fun h j hj => by
      by_cases e : j = i
      · subst e
        simp only [Bool.not_eq_false', decide_eq_true_eq, decide_eq_false_iff_not] at f1 f2 f3 f5 f6
        simp only [flowB, hg, Bool.and_eq_true, Bool.or_eq_true, decide_eq_true_eq, beq_iff_eq]
        exact ⟨⟨by omega, f1⟩, h⟩
      · exact hz j (by omega)
    repeat (first | refine VIf.tt ?_ | refine VIf.ff ?_)
    refine VDraw.go (by kernel_rfl) ?_
    repeat (first | refine VIf.tt ?_ | refine VIf.ff ?_)
    refine VIf.mk (fun f8 => ?_) (fun f8 => ?_)
    · have hi0 : 0 < i := by have := of_decide_eq_true f8; omega
      repeat (first | refine VIf.tt ?_ | refine VIf.ff ?_)
      refine VArith.ok (by first | omega | (simp only; omega)) (by first | omega | (simp only; omega)) ?_
      obtain ⟨ad2, ead2, hr2⟩ := hrd M (Mem.le_refl _) (i - 1) (by omega)
      repeat (first | refine VIf.tt ?_ | refine VIf.ff ?_)
      refine VIdx.mk ad2 (i - 1) ead2 (by first | omega | (simp only; omega)) (by omega) ?_
      repeat (first | refine VIf.tt ?_ | refine VIf.ff ?_)
      refine VReads.mk (flC (gf t.fl (i - 1))) rfl hr2 ?_
      repeat (first | refine VIf.tt ?_ | refine VIf.ff ?_)
      refine VFn.p (before13_fn (gf t.fl (i - 1)) g M) ?_
      repeat (first | refine VIf.tt ?_ | refine VIf.ff ?_)
      refine VIf.mk (fun f9 => ?_) (fun f9 => ?_)
      · repeat (first | refine VIf.tt ?_ | refine VIf.ff ?_)
        exact VFact.mk (bads fun h => by have := (key h).2.2; simp only [Bool.not_eq_true', decide_eq_false_iff_not] at f9; omega) trivial
      · repeat (first | refine VIf.tt ?_ | refine VIf.ff ?_)
        refine VArith.ok (by first | omega | (simp only; omega)) (by first | omega | (simp only; omega)) ?_
        exact ⟨i + 1, ⟨hlt, okF (.inr (of_decide_eq_true ((Bool.not_eq_false' _).mp f9)))⟩, (by first | omega | (simp only; omega)), (Wk.mk' id (by repeat' constructor) (by repeat' constructor) (injOK_id _) rfl rfl rfl)⟩
    · repeat (first | refine VIf.tt ?_ | refine VIf.ff ?_)
      refine VArith.ok (by first | omega | (simp only; omega)) (by first | omega | (simp only; omega)) ?_
      exact ⟨i + 1, ⟨hlt, okF (.inl (by have := of_decide_eq_false f8; omega))⟩, (by first | omega | (simp only; omega)), (Wk.mk' id (by repeat' constructor) (by repeat' constructor) (injOK_id _) rfl rfl rfl)⟩
  · have : i = t.fl.length := by have := ge_of_dec hge; omega
    subst this
    repeat (first | refine VIf.tt ?_ | refine VIf.ff ?_)
    refine VFact.mk ⟨?_, rfl⟩ trivial
    have : tideB t = true := by
      simp only [Bool.not_eq_false', decide_eq_true_eq, decide_eq_false_iff_not, bne_eq_false_iff_eq] at e1 e2 e3 e4 e5 e6 e7 e8
      simp only [tideB, Bool.and_eq_true, decide_eq_true_eq, all_range]
      exact ⟨⟨⟨by omega, by omega, by omega, by omega, by omega, by omega, by omega, e5, e6, e7⟩, e1⟩, hz⟩
    rw [this]
end Go.Proofs.Ytlppfikkgcfaoaa

/- Contracts of the tide's laws: usable. -/
namespace Go.Proofs.Ytlppfikkgcfaoaa
open Go Go.V Go.RowKit
theorem usable_fn (t : TideS) (v : Value) (x1 y1 x2 y2 n1 n2 : Int) (M : Mem) (hv : FlsV M v t.fl) : V.Fn Try.prog 15 [tdV t v, pt x1 y1, pt x2 y2, .int .i64 n1, .int .i64 n2] M fun rs _ => ∃ b, rs = [.bool b] ∧ (b = true → GoodT t x1 y1 x2 y2 n1 n2) := by
  have hv' := hv
  obtain ⟨ad, c, rfl, hm, hrd⟩ := hv.get
  refine Fn.of_vc cxOK Try.func15 rfl rfl rfl ?_
  repeat (first | refine VIf.tt ?_ | refine VIf.ff ?_)
  refine VFn.mk _ (Few13_fn t _ x1 y1 x2 y2 n1 n2 M hv').2 ?_
  rintro rs M1 hM1 ⟨b, rfl⟩
  have bad : ∃ b', [Value.bool false] = [.bool b'] ∧ (b' = true → GoodT t x1 y1 x2 y2 n1 n2) := ⟨false, rfl, fun h => by cases h⟩
  repeat (first | refine VIf.tt ?_ | refine VIf.ff ?_)
  refine VIf.mk (fun e0 => ?_) (fun e0 => ?_)
  rotate_left
  · repeat (first | refine VIf.tt ?_ | refine VIf.ff ?_)
    repeat (first | refine VIf.tt ?_ | refine VIf.ff ?_)
    exact VFact.mk bad trivial
  repeat (first | refine VIf.tt ?_ | refine VIf.ff ?_)
  refine VFn.p (validR13_fn t _ M1 (hv'.le hM1)) ?_
  repeat (first | refine VIf.tt ?_ | refine VIf.ff ?_)
  refine VIf.mk (fun e1 => ?_) (fun e1 => ?_)
  rotate_left
  · repeat (first | refine VIf.tt ?_ | refine VIf.ff ?_)
    repeat (first | refine VIf.tt ?_ | refine VIf.ff ?_)
    exact VFact.mk bad trivial
  repeat (first | refine VIf.tt ?_ | refine VIf.ff ?_)
  refine VFn.p (Rect_fn x1 y1 x2 y2 M1) ?_
  repeat (first | refine VIf.tt ?_ | refine VIf.ff ?_)
  refine VIf.mk (fun e2 => ?_) (fun e2 => ?_)
  rotate_left
  · repeat (first | refine VIf.tt ?_ | refine VIf.ff ?_)
    repeat (first | refine VIf.tt ?_ | refine VIf.ff ?_)
    exact VFact.mk bad trivial
  repeat (first | refine VIf.tt ?_ | refine VIf.ff ?_)
  refine VFn.p (Time13_fn n1 n2 M1) ?_
  repeat (first | refine VIf.tt ?_ | refine VIf.ff ?_)
  refine VFact.mk ⟨_, rfl, fun h => ?_⟩ trivial
  have h := of_decide_eq_true h
  obtain ⟨p1, p2, hx, hy⟩ := rect_get e2
  exact ⟨e1, p1, p2, hx, hy, h.1, h.2.1, h.2.2⟩
end Go.Proofs.Ytlppfikkgcfaoaa

/- Contracts of the tide's laws: a place inside. -/
namespace Go.Proofs.Ytlppfikkgcfaoaa
open Go Go.V Go.RowKit
theorem inside_fn (x1 y1 x2 y2 a b : Int) (M : Mem) (h1 : placeB (x1, y1) = true) (h2 : placeB (x2, y2) = true) (hx : x1 ≤ x2) (hy : y1 ≤ y2) (ha : 0 ≤ a ∧ a < 4294967296) (hb : 0 ≤ b ∧ b < 4294967296) :
    V.Fn Try.prog 18 [pt x1 y1, pt x2 y2, .int .u32 a, .int .u32 b] M fun rs _ => ∃ x y, rs = [pt x y] ∧ x1 ≤ x ∧ x ≤ x2 ∧ y1 ≤ y ∧ y ≤ y2 := by
  have b1 := place13_bd h1
  have b2 := place13_bd h2
  refine Fn.of_vc cxOK Try.func18 rfl rfl rfl ?_
  have r1 := Int.tmod_nonneg (a := a) (x2 - x1 + 1) ha.1
  have r2 := Int.tmod_lt_of_pos a (b := x2 - x1 + 1) (by omega)
  have r3 := Int.tmod_nonneg (a := b) (y2 - y1 + 1) hb.1
  have r4 := Int.tmod_lt_of_pos b (b := y2 - y1 + 1) (by omega)
  repeat (first | refine VIf.tt ?_ | refine VIf.ff ?_)
  refine VDraw.go (by kernel_rfl) ?_
  repeat (first | refine VIf.tt ?_ | refine VIf.ff ?_)
  refine VArith.ok (by first | omega | (simp only; omega)) (by first | omega | (simp only; omega)) ?_
  repeat (first | refine VIf.tt ?_ | refine VIf.ff ?_)
  refine VArith.ok (by first | omega | (simp only; omega)) (by first | omega | (simp only; omega)) ?_
  repeat (first | refine VIf.tt ?_ | refine VIf.ff ?_)
  refine VArith.ok (by first | omega | (simp only; omega)) (by first | omega | (simp only; omega)) ?_
  repeat (first | refine VIf.tt ?_ | refine VIf.ff ?_)
  refine VDiv.mk (by omega) ?_
  repeat (first | refine VIf.tt ?_ | refine VIf.ff ?_)
  refine VArith.ok (by first | omega | (simp only; omega)) (by first | omega | (simp only; omega)) ?_
  repeat (first | refine VIf.tt ?_ | refine VIf.ff ?_)
  refine VArith.ok (by first | omega | (simp only; omega)) (by first | omega | (simp only; omega)) ?_
  repeat (first | refine VIf.tt ?_ | refine VIf.ff ?_)
  refine VArith.ok (by first | omega | (simp only; omega)) (by first | omega | (simp only; omega)) ?_
  repeat (first | refine VIf.tt ?_ | refine VIf.ff ?_)
  refine VArith.ok (by first | omega | (simp only; omega)) (by first | omega | (simp only; omega)) ?_
  repeat (first | refine VIf.tt ?_ | refine VIf.ff ?_)
  refine VDiv.mk (by omega) ?_
  repeat (first | refine VIf.tt ?_ | refine VIf.ff ?_)
  refine VArith.ok (by first | omega | (simp only; omega)) (by first | omega | (simp only; omega)) ?_
  repeat (first | refine VIf.tt ?_ | refine VIf.ff ?_)
  refine VFn.p (at_fn13 _ _ M) ?_
  repeat (first | refine VIf.tt ?_ | refine VIf.ff ?_)
  exact VFact.mk ⟨_, _, rfl, by omega, by omega, by omega, by omega⟩ trivial
end Go.Proofs.Ytlppfikkgcfaoaa

/- Contracts of the tide's reference: down, slots, blocks, joins. -/
namespace Go.Proofs.Ytlppfikkgcfaoaa
open Go Go.V Go.RowKit
theorem rdAt {M : Mem} {B : Nat} {cs : Array Value} {t : TypeId} (h : M B = some (.cells cs t (0, 0))) : ∀ (j : Nat) u, cs.toList[j]? = some u → M.cell ((⟨B, 0, none⟩ : Addr).add j) = some u := fun j _ hu => cellAt h j (by simpa using hu)
theorem At_is {t : TideS} {v : Value} {x y n : Int} {M : Mem} (hv : FlsV M v t.fl) (ht : tideB t = true) (hp : placeB (x, y) = true) (h1 : 0 ≤ n) (h2 : n ≤ 1000000000) : V.Fn Try.prog 17 [tdV t v, pt x y, .int .i64 n] M fun rs _ => rs = [flV (ofB t (x / 10000) (y / 10000) ((n - t.fr) / 3600)), .int .i64 0] :=
  (At_fn t v x y n M hv).mono fun rs M' _ h => by
    rw [ht, hp, decide_eq_true ⟨h1, h2⟩] at h
    exact h
theorem place_in {x1 y1 x2 y2 x y : Int} (h1 : placeB (x1, y1) = true) (h2 : placeB (x2, y2) = true) (a1 : x1 ≤ x) (a2 : x ≤ x2) (a3 : y1 ≤ y) (a4 : y ≤ y2) : placeB (x, y) = true := by
  have b1 := place13_bd h1
  have b2 := place13_bd h2
  simp only [placeB, isCb, Bool.and_eq_true, decide_eq_true_eq]
  omega
theorem Down01_fn (a b : Int) (M : Mem) (hb : 0 < b) (hb' : b ≤ 1000000000000) (h1 : -1000000000000 ≤ a) (h2 : a ≤ 1000000000000) : FnP Try.prog 55 [.int .i64 a, .int .i64 b] M [.int .i64 (a / b)] := by
  have hq := tdiv_bd hb h1 h2
  have hs := div_spec (a := a) hb
  have hm := Int.tmod_lt_of_pos a hb
  have hm' : -b < a.tmod b := by
    have h := Int.tmod_lt_of_pos (-a) hb
    rw [Int.neg_tmod] at h; omega
  have e : a.tdiv b * b = a - a.tmod b := by
    have := Int.tmod_add_mul_tdiv a b
    rw [Int.mul_comm]; omega
  have e2 : a - a.tdiv b * b = a.tmod b := by rw [e]; omega
  have hbf : decide (b < 0) = false := decide_eq_false (by omega)
  refine Fn.of_vc cxOK Try.func55 rfl rfl rfl ?_
  repeat (first | refine VIf.tt ?_ | refine VIf.ff ?_)
  refine VDiv.mk (by omega) ?_
  repeat (first | refine VIf.tt ?_ | refine VIf.ff ?_)
  refine VArith.ok (by first | omega | (simp only; omega)) (by first | omega | (simp only; omega)) ?_
  repeat (first | refine VIf.tt ?_ | refine VIf.ff ?_)
  refine VArith.ok (by first | omega | (simp only; omega)) (by first | omega | (simp only; omega)) ?_
  repeat (first | refine VIf.tt ?_ | refine VIf.ff ?_)
  refine VArith.ok (by first | omega | (simp only; omega)) (by first | omega | (simp only; omega)) ?_
  repeat (first | refine VIf.tt ?_ | refine VIf.ff ?_)
  refine VIf.mk (fun h => ?_) (fun h => ?_)
  · repeat (first | refine VIf.tt ?_ | refine VIf.ff ?_)
    refine VIf.mk (fun h => ?_) (fun h => ?_)
    · have hneg : a.tmod b < 0 := by
        rw [e2, hbf] at h; simpa using h
      have he := Int.emod_nonneg a (b := b) (by omega)
      have := hs.1 hneg
      repeat (first | refine VIf.tt ?_ | refine VIf.ff ?_)
      refine VArith.ok (by first | omega | (simp only; omega)) (by first | omega | (simp only; omega)) ?_
      repeat (first | refine VIf.tt ?_ | refine VIf.ff ?_)
      exact VFact.mk ⟨by rw [this.1], rfl⟩ trivial
    · have hpos : 0 ≤ a.tmod b := by
        rw [e2, hbf] at h; simpa using h
      have := hs.2 hpos
      repeat (first | refine VIf.tt ?_ | refine VIf.ff ?_)
      exact VFact.mk ⟨by rw [this.1], rfl⟩ trivial
  · rw [e2] at h
    have hz : a.tmod b = 0 := bne_eq_false_iff_eq.1 h
    have := hs.2 (by omega)
    repeat (first | refine VIf.tt ?_ | refine VIf.ff ?_)
    exact VFact.mk ⟨by rw [this.1], rfl⟩ trivial
theorem Block13_fn (n : Int) (M : Mem) (h1 : -1000000000000 ≤ n) (h2 : n ≤ 1000000000000) : FnP Try.prog 21 [.int .i64 n] M [.int .i64 (n / 10000)] := by
  refine Fn.of_vc cxOK Try.func21 rfl rfl rfl ?_
  repeat (first | refine VIf.tt ?_ | refine VIf.ff ?_)
  refine VFn.p (Down01_fn n 10000 M (by omega) (by omega) h1 h2) ?_
  repeat (first | refine VIf.tt ?_ | refine VIf.ff ?_)
  exact VFact.mk ⟨rfl, rfl⟩ trivial
theorem Slot13_fn (t : TideS) (v : Value) (n : Int) (M : Mem) (hv : FlsV M v t.fl) (h1 : 0 ≤ t.fr ∧ t.fr ≤ 1000000000) (h2 : 0 ≤ n ∧ n ≤ 1000000000) : FnP Try.prog 20 [tdV t v, .int .i64 n] M [.int .i64 ((n - t.fr) / 3600)] := by
  obtain ⟨ad, c, rfl, hm, hrd⟩ := hv.get
  refine Fn.of_vc cxOK Try.func20 rfl rfl rfl ?_
  repeat (first | refine VIf.tt ?_ | refine VIf.ff ?_)
  refine VArith.ok (by first | omega | (simp only; omega)) (by first | omega | (simp only; omega)) ?_
  repeat (first | refine VIf.tt ?_ | refine VIf.ff ?_)
  refine VFn.p (Down01_fn (n - t.fr) 3600 M (by omega) (by omega) (by omega) (by omega)) ?_
  repeat (first | refine VIf.tt ?_ | refine VIf.ff ?_)
  exact VFact.mk ⟨rfl, rfl⟩ trivial
theorem join13_fn (a b c d : Int) (M : Mem) : FnP Try.prog 91 [.agg #[.int .i64 a, .int .i64 b], .agg #[.int .i64 c, .int .i64 d]] M [.agg #[.int .i64 (min a c), .int .i64 (max b d)]] := by
  refine Fn.of_vc cxOK Try.func91 rfl rfl rfl ?_
  repeat (first | refine VIf.tt ?_ | refine VIf.ff ?_)
  exact VFact.mk ⟨rfl, rfl⟩ trivial
theorem Joined13_fn (a b : FlowS) (M : Mem) : FnP Try.prog 56 [flV a, flV b] M [flV (joinF a b)] := by
  refine Fn.of_vc cxOK Try.func56 rfl rfl rfl ?_
  repeat (first | refine VIf.tt ?_ | refine VIf.ff ?_)
  refine VDraw.go (by kernel_rfl) ?_
  repeat (first | refine VIf.tt ?_ | refine VIf.ff ?_)
  refine VFn.p (join13_fn _ _ _ _ M) ?_
  repeat (first | refine VIf.tt ?_ | refine VIf.ff ?_)
  refine VFn.p (join13_fn _ _ _ _ M) ?_
  repeat (first | refine VIf.tt ?_ | refine VIf.ff ?_)
  refine VFn.p (join13_fn _ _ _ _ M) ?_
  repeat (first | refine VIf.tt ?_ | refine VIf.ff ?_)
  exact VFact.mk ⟨rfl, rfl⟩ trivial
theorem ends13_fn (a b : FlowS) (first : Bool) (M : Mem) : FnP Try.prog 23 [flV a, flV b, .bool first] M [flV (if first = true then b else joinF a b)] := by
  refine Fn.of_vc cxOK Try.func23 rfl rfl rfl ?_
  repeat (first | refine VIf.tt ?_ | refine VIf.ff ?_)
  refine VIf.mk (fun h => ?_) (fun h => ?_)
  · subst h; exact VFact.mk ⟨rfl, rfl⟩ trivial
  · subst h
    repeat (first | refine VIf.tt ?_ | refine VIf.ff ?_)
    refine VFn.p (Joined13_fn a b M) ?_
    repeat (first | refine VIf.tt ?_ | refine VIf.ff ?_)
    exact VFact.mk ⟨rfl, rfl⟩ trivial
theorem floor13_fn (n : Int) (M : Mem) (h1 : -1000000000000 ≤ n) (h2 : n ≤ 1000000000000) : FnP Try.prog 32 [.int .i64 n] M [.int .i64 (n / 100)] := by
  have hq := tdiv_bd (a := n) (b := 100) (by omega) h1 h2
  have hs := div_spec (a := n) (b := 100) (by omega)
  refine Fn.of_vc cxOK Try.func32 rfl rfl rfl ?_
  repeat (first | refine VIf.tt ?_ | refine VIf.ff ?_)
  refine VDiv.mk (by omega) ?_
  repeat (first | refine VIf.tt ?_ | refine VIf.ff ?_)
  refine VArith.ok (by first | omega | (simp only; omega)) (by first | omega | (simp only; omega)) ?_
  repeat (first | refine VIf.tt ?_ | refine VIf.ff ?_)
  refine VDiv.mk (by omega) ?_
  repeat (first | refine VIf.tt ?_ | refine VIf.ff ?_)
  refine VIf.mk (fun h => ?_) (fun h => ?_)
  · have := hs.1 (of_decide_eq_true h)
    repeat (first | refine VIf.tt ?_ | refine VIf.ff ?_)
    refine VArith.ok (by first | omega | (simp only; omega)) (by first | omega | (simp only; omega)) ?_
    repeat (first | refine VIf.tt ?_ | refine VIf.ff ?_)
    exact VFact.mk ⟨by rw [this.1], rfl⟩ trivial
  · have := hs.2 (by have := of_decide_eq_false h; omega)
    repeat (first | refine VIf.tt ?_ | refine VIf.ff ?_)
    exact VFact.mk ⟨by rw [this.1], rfl⟩ trivial
end Go.Proofs.Ytlppfikkgcfaoaa
