import Derived.Test.YtlppfikkgcfaoaaGreatHa5
import Derived.WalkKit
import Derived.Handy
import Derived.Lib.Hide
import Derived.WalkLawsBesides
import Derived.WalkSpells
import Derived.Deep.RegionHeld3
import Derived.Deep.Draws
import Derived.Sort.Grow
import Derived.Shelf.SlSortCmp.NoneTotal
set_option linter.unusedVariables false
set_option linter.unusedSimpArgs false
/- Contracts of package ray: rays one after the other; the ray behind which a vector lies; what lies between two. -/
namespace Go.Proofs.YtlppfikkgcfaoaaGreat
open Go Go.V Go.RowKit
theorem Ray_fn (k : Int) (M : Mem) : FnP Tryz.prog 5 [.int .i64 k] M (if decide (0 ≤ k ∧ k < 64) = true then [ptv (rayP k.toNat), .int .i64 0] else [pt 0 0, .int .i64 1]) := by
  refine Fn.of_vc cxOK Tryz.func5 rfl rfl rfl ?_
  repeat (first | refine VIf.tt ?_ | refine VIf.ff ?_)
  refine VFn.p (areRays_fn k 0 M) ?_
  repeat (first | refine VIf.tt ?_ | refine VIf.ff ?_)
  refine VIf.mk (fun h => ?_) (fun h => ?_)
  · repeat (first | refine VIf.tt ?_ | refine VIf.ff ?_)
    refine VFact.mk ⟨?_, rfl⟩ trivial
    have h := of_decide_eq_false ((Bool.not_eq_true' _).mp h)
    rw [decide_eq_false (by omega)]; rfl
  · have h := of_decide_eq_true ((Bool.not_eq_false' _).mp h)
    have F := atRay_fn k.toNat M (by omega)
    rw [show ((k.toNat : Nat) : Int) = k by omega] at F
    repeat (first | refine VIf.tt ?_ | refine VIf.ff ?_)
    refine VFn.p F ?_
    repeat (first | refine VIf.tt ?_ | refine VIf.ff ?_)
    refine VFact.mk ⟨?_, rfl⟩ trivial
    rw [if_pos (decide_eq_true (by omega))]; rfl
theorem Between_fn (a n : Int) (v : Pt) (M : Mem) : FnP Tryz.prog 7 [.int .i64 a, .int .i64 n, ptv v] M (if (decide (0 ≤ a ∧ a < 64 ∧ 0 ≤ n ∧ n < 32) && vecB v) = true then [.bool (rawP a.toNat n.toNat v), .int .i64 0] else [.bool false, .int .i64 1]) := by
  refine Fn.of_vc cxOK Tryz.func7 rfl rfl rfl ?_
  repeat (first | refine VIf.tt ?_ | refine VIf.ff ?_)
  refine VFn.p (areRays_fn a n M) ?_
  repeat (first | refine VIf.tt ?_ | refine VIf.ff ?_)
  refine VIf.mk (fun h => ?_) (fun h => ?_)
  · repeat (first | refine VIf.tt ?_ | refine VIf.ff ?_)
    repeat (first | refine VIf.tt ?_ | refine VIf.ff ?_)
    refine VFact.mk ⟨?_, rfl⟩ trivial
    rw [(Bool.not_eq_true' _).mp h]; rfl
  have h := (Bool.not_eq_false' _).mp h
  repeat (first | refine VIf.tt ?_ | refine VIf.ff ?_)
  refine VFn.p (isVector_fn v M) ?_
  repeat (first | refine VIf.tt ?_ | refine VIf.ff ?_)
  refine VIf.mk (fun hv => ?_) (fun hv => ?_)
  · repeat (first | refine VIf.tt ?_ | refine VIf.ff ?_)
    repeat (first | refine VIf.tt ?_ | refine VIf.ff ?_)
    refine VFact.mk ⟨?_, rfl⟩ trivial
    rw [(Bool.not_eq_true' _).mp hv, Bool.and_false]; rfl
  have hv := (Bool.not_eq_false' _).mp hv
  have hV := vec_V hv
  rw [h, hv]
  have h := of_decide_eq_true h
  obtain ⟨A, rfl⟩ : ∃ A : Nat, a = A := ⟨a.toNat, by omega⟩
  obtain ⟨N, rfl⟩ : ∃ N : Nat, n = N := ⟨n.toNat, by omega⟩
  have F1 := atRay_fn A M (by omega)
  have F2 := atRay_fn (A + N) M (by omega)
  rw [show (((A + N : Nat) : Int)) = (A : Int) + (N : Int) by omega] at F2
  repeat (first | refine VIf.tt ?_ | refine VIf.ff ?_)
  refine VFn.p F1 ?_
  repeat (first | refine VIf.tt ?_ | refine VIf.ff ?_)
  refine VArith.ok (by first | omega | (simp only; omega)) (by first | omega | (simp only; omega)) ?_
  repeat (first | refine VIf.tt ?_ | refine VIf.ff ?_)
  refine VFn.p F2 ?_
  repeat (first | refine VIf.tt ?_ | refine VIf.ff ?_)
  refine VIf.mk (fun h0 => ?_) (fun h0 => ?_)
  · have h0 : N = 0 := by have := beq_iff_eq.1 h0; omega
    subst h0
    repeat (first | refine VIf.tt ?_ | refine VIf.ff ?_)
    refine VFn.p (isOn_fn _ _ M (R_V (ray_R A)) hV) ?_
    repeat (first | refine VIf.tt ?_ | refine VIf.ff ?_)
    refine VFact.mk ⟨?_, rfl⟩ trivial
    rfl
  · have h0 : N ≠ 0 := by simpa using h0
    repeat (first | refine VIf.tt ?_ | refine VIf.ff ?_)
    refine VFn.p (crossRay_fn _ _ M (R_V (ray_R A)) hV) ?_
    have er : rawP A N v = (decide (0 ≤ crs (rayP A) v) && decide (0 ≤ crs v (rayP (A + N)))) := by unfold rawP; rw [if_neg h0]
    repeat (first | refine VIf.tt ?_ | refine VIf.ff ?_)
    refine VIf.mk (fun h1 => ?_) (fun h1 => ?_)
    · repeat (first | refine VIf.tt ?_ | refine VIf.ff ?_)
      refine VFn.p (crossRay_fn _ _ M hV (R_V (ray_R (A + N)))) ?_
      repeat (first | refine VIf.tt ?_ | refine VIf.ff ?_)
      repeat (first | refine VIf.tt ?_ | refine VIf.ff ?_)
      refine VFact.mk ⟨?_, rfl⟩ trivial
      have h1 := of_decide_eq_true h1
      show [Value.bool _, Value.int .i64 0] = [Value.bool (rawP A N v), Value.int .i64 0]
      rw [er, decide_eq_true (show 0 ≤ crs (rayP A) v from h1), Bool.true_and]
    · repeat (first | refine VIf.tt ?_ | refine VIf.ff ?_)
      repeat (first | refine VIf.tt ?_ | refine VIf.ff ?_)
      refine VFact.mk ⟨?_, rfl⟩ trivial
      have h1 := of_decide_eq_false h1
      show [Value.bool _, Value.int .i64 0] = [Value.bool (rawP A N v), Value.int .i64 0]
      rw [er, decide_eq_false (show ¬ 0 ≤ crs (rayP A) v from h1), Bool.false_and]
def raysL (a n : Nat) : List (List Value) := (List.range (n + 1)).map fun i => [.int .i64 ((a + i) % 64 : Nat), ptv (rayP (a + i))]
theorem rays_fn (a n : Int) (M : Mem) : V.Fn Tryz.prog 23 [.int .i64 a, .int .i64 n] M fun rs M' => ∃ B1 B2, rs = [.func (.func 38) #[] #[.pointer (some ⟨B1, 0, none⟩), .pointer (some ⟨B2, 0, none⟩)]] ∧ M' B1 = some (.cells #[.int .i64 a] 3 (0, 0)) ∧ M' B2 = some (.cells #[.int .i64 n] 3 (0, 0)) := by
  refine Fn.of_vc cxOK Tryz.func23 rfl rfl rfl ?_
  repeat (first | refine VIf.tt ?_ | refine VIf.ff ?_)
  refine VFzB.mk fun z1 B1 M1 hM1 hB1 => ?_
  repeat (first | refine VIf.tt ?_ | refine VIf.ff ?_)
  refine VFzB.mk fun z2 B2 M2 hM2 hB2 => ?_
  repeat (first | refine VIf.tt ?_ | refine VIf.ff ?_)
  exact VFact.mk ⟨B1, B2, rfl, hM2 _ _ hB1, hB2⟩ trivial
theorem rays_iter (a n : Nat) (ha : a < 64) (hn : n < 32) (M : Mem) (B1 B2 : Nat) (hB1 : M B1 = some (.cells #[.int .i64 a] 3 (0, 0))) (hB2 : M B2 = some (.cells #[.int .i64 n] 3 (0, 0))) :
    Iter Tryz.prog 38 #[.pointer (some ⟨B1, 0, none⟩), .pointer (some ⟨B2, 0, none⟩)] M (raysL a n) := by
  refine Iter.of_vc cxOK Tryz.func38 rfl rfl rfl rfl fun l => ?_
  repeat (first | refine VIf.tt ?_ | refine VIf.ff ?_)
  refine VRead.mk _ (cellAt hB1 0 rfl) ?_
  repeat (first | refine VIf.tt ?_ | refine VIf.ff ?_)
  refine VCode.loopG cxOK (fun m => m = fun _ => none) rfl Nat
    (fun i => ⟨[(0, .v (.func (.yield l) #[] #[])), (1, .v (.pointer (some ⟨B1, 0, none⟩))), (2, .v (.pointer (some ⟨B2, 0, none⟩))), (4, .v (.int .i64 ((a : Int) + (i : Int))))], [], 0, M, 20, ⟨fun _ => none, some (l, (raysL a n).drop i), fun _ => none⟩⟩)
    (fun i => i ≤ n + 1) (fun i => n + 1 - i) 0 (Nat.zero_le _) ?_ ?_
  · exact (Wk.mk' id (by repeat' constructor) (by repeat' constructor) (injOK_id _) rfl rfl rfl)
  rintro i hi m rfl
  repeat (first | refine VIf.tt ?_ | refine VIf.ff ?_)
  refine VRead.mk _ (cellAt hB1 0 rfl) ?_
  repeat (first | refine VIf.tt ?_ | refine VIf.ff ?_)
  refine VRead.mk _ (cellAt hB2 0 rfl) ?_
  repeat (first | refine VIf.tt ?_ | refine VIf.ff ?_)
  refine VArith.ok (by first | omega | (simp only; omega)) (by first | omega | (simp only; omega)) ?_
  repeat (first | refine VIf.tt ?_ | refine VIf.ff ?_)
  refine VIf.mk (fun hlt => ?_) (fun hge => ?_)
  · have hlt : i < n + 1 := by have := of_decide_eq_true hlt; omega
    repeat (first | refine VIf.tt ?_ | refine VIf.ff ?_)
    refine VDiv.mk (by decide) ?_
    have F := atRay_fn (a + i) M (by omega)
    rw [show (((a + i : Nat) : Int)) = (a : Int) + (i : Int) by omega] at F
    repeat (first | refine VIf.tt ?_ | refine VIf.ff ?_)
    refine VFn.p F ?_
    repeat (first | refine VIf.tt ?_ | refine VIf.ff ?_)
    refine VYield.mk ((raysL a n).drop (i + 1)) ?_ ?_ ?_
    · simp only [Gh.mk.injEq, and_true, true_and, Option.some.injEq, Prod.mk.injEq]
      rw [List.drop_eq_getElem_cons (by simpa [raysL] using hlt)]
      have em : ((a : Int) + (i : Int)).tmod 64 = (((a + i) % 64 : Nat) : Int) := by rw [Int.tmod_eq_emod_of_nonneg (by omega)]; omega
      simp [raysL, em]
    · refine VIf.ff ?_
      repeat (first | refine VIf.tt ?_ | refine VIf.ff ?_)
      refine VArith.ok (by first | omega | (simp only; omega)) (by first | omega | (simp only; omega)) ?_
      exact ⟨rfl, i + 1, hlt, (by first | omega | (simp only; omega)), (Wk.mk' id (by repeat' constructor) (by repeat' constructor) (injOK_id _) rfl rfl rfl)⟩
    · refine VIf.tt ?_
      exact VEnd.stop rfl
  · have hge : i = n + 1 := by have := of_decide_eq_false hge; omega
    subst hge
    exact VEnd.all (by simp [raysL])
/-! ### The ray behind which a vector lies -/
def rotR (p : Pt) : Pt := (p.2, -p.1)
theorem rotN_comm (p : Pt) : ∀ n, rotN (n + 1) p = rotN n (rotL p)
  | 0 => rfl
  | n + 1 => by
    show rotL (rotN (n + 1) p) = rotL (rotN n (rotL p))
    rw [rotN_comm p n]
theorem rotLR (p : Pt) : rotL (rotR p) = p := by unfold rotL rotR; simp
/-- How often a vector is yet to be turned. -/
def qd (p : Pt) : Nat := if 0 < p.1 ∧ 0 ≤ p.2 then 0 else if p.1 ≤ 0 ∧ 0 < p.2 then 1 else if p.1 < 0 ∧ p.2 ≤ 0 then 2 else 3
theorem qd_step {p : Pt} (h0 : ¬ (p.1 = 0 ∧ p.2 = 0)) (h : p.1 ≤ 0 ∨ p.2 < 0) : qd (rotR p) + 1 = qd p := by
  unfold qd rotR
  simp only
  repeat' split
  all_goals omega
theorem qd_zero {p : Pt} (h : 0 < p.1 ∧ 0 ≤ p.2) : qd p = 0 := if_pos h
theorem qd_le (p : Pt) : qd p ≤ 3 := by
  unfold qd
  repeat' split
  all_goals omega
theorem ofS_rotN {v : Pt} {f : Nat} (h : OfS v f) : ∀ t, OfS (rotN t v) ((f + 16 * t) % 64) ∧ onP (rotN t v) ((f + 16 * t) % 64) = onP v f
  | 0 => by
    have := h.hk
    rw [show (f + 16 * 0) % 64 = f by omega]
    exact ⟨h, rfl⟩
  | t + 1 => by
    obtain ⟨h1, h2⟩ := ofS_rotN h t
    rw [show (f + 16 * (t + 1)) % 64 = ((f + 16 * t) % 64 + 16) % 64 by omega]
    exact ⟨ofS_rot h1, (onP_rot _ _).trans h2⟩
/-- What was found among the first rays. -/
def FndP (v : Pt) (k : Nat) (s : Nat × Bool) : Prop := 0 < k → s.1 < k ∧ s.2 = (decide (crs (rayP s.1) v = 0) && decide (0 < dot2 (rayP s.1) v)) ∧ 0 ≤ crs (rayP s.1) v ∧ ∀ j, s.1 < j → j < k → crs (rayP j) v < 0
theorem fnd_of {v : Pt} {s : Nat × Bool} (hx : 0 < v.1) (h : FndP v 16 s) : OfS v s.1 ∧ s.2 = onP v s.1 ∧ s.1 < 16 := by
  obtain ⟨h1, h2, h3, h4⟩ := h (by decide)
  have hO : OfS v s.1 := by
    refine ⟨by omega, h3, ?_⟩
    by_cases e : s.1 = 15
    · rw [e]
      show 0 < crs v (0, 1000)
      unfold crs; simp only; omega
    · have := h4 (s.1 + 1) (by omega) (by omega)
      rw [crs_anti]; omega
  refine ⟨hO, ?_, h1⟩
  rw [h2]
  unfold onP
  have := on_iff hO hO.hk
  rw [Bool.eq_iff_iff]
  simp only [Bool.and_eq_true, decide_eq_true_eq]
  rw [this]
  have e : offR s.1 s.1 = 0 := by unfold offR; omega
  exact ⟨fun h => h.2, fun h => ⟨e, h⟩⟩
theorem raysL_get {a n k : Nat} {args : List Value} (h : (raysL a n)[k]? = some args) : k ≤ n ∧ args = [.int .i64 ((a + k) % 64 : Nat), ptv (rayP (a + k))] := by
  unfold raysL at h
  rw [List.getElem?_map] at h
  by_cases hk : k < n + 1
  · rw [List.getElem?_range hk] at h
    simp at h
    exact ⟨by omega, h.symm⟩
  · rw [List.getElem?_eq_none (by simp; omega)] at h; simp at h
theorem fnd_step {v : Pt} {k : Nat} {s : Nat × Bool} (h0 : 0 ≤ v.2) (h : FndP v k s) (hc : crs (rayP k) v < 0) : FndP v (k + 1) s := fun _ => by
  have hk : 0 < k := by
    rcases Nat.eq_zero_or_pos k with rfl | hk
    · have : crs (rayP 0) v = 1000 * v.2 := by
        show (1000 : Int) * v.2 - 0 * v.1 = _
        omega
      omega
    · exact hk
  obtain ⟨h1, h2, h3, h4⟩ := h hk
  refine ⟨by omega, h2, h3, fun j hj hjk => ?_⟩
  rcases Nat.eq_or_lt_of_le (show j ≤ k by omega) with rfl | e
  · exact hc
  · exact h4 j hj e
theorem fnd_put {v : Pt} {k : Nat} (hc : 0 ≤ crs (rayP k) v) : FndP v (k + 1) (k, decide (crs (rayP k) v = 0) && decide (0 < dot2 (rayP k) v)) := fun _ => ⟨Nat.lt_succ_self _, rfl, hc, fun j h1 h2 => by simp only at h1; omega⟩
set_option maxRecDepth 20000 in
set_option maxHeartbeats 2000000 in
theorem Of_fn (v : Pt) (M : Mem) : V.Fn Tryz.prog 9 [ptv v] M fun rs _ => if vecB v = true then ∃ k : Nat, OfS v k ∧ rs = [.int .i64 k, .bool (onP v k), .int .i64 0] else rs = [.int .i64 0, .bool false, .int .i64 1] := by
  refine Fn.of_vc cxOK Tryz.func9 rfl rfl rfl ?_
  repeat (first | refine VIf.tt ?_ | refine VIf.ff ?_)
  refine VFn.p (isVector_fn v M) ?_
  repeat (first | refine VIf.tt ?_ | refine VIf.ff ?_)
  refine VIf.mk (fun hv => ?_) (fun hv => ?_)
  · repeat (first | refine VIf.tt ?_ | refine VIf.ff ?_)
    refine VFact.mk ?_ trivial
    rw [(Bool.not_eq_true' _).mp hv]; rfl
  have hv := (Bool.not_eq_false' _).mp hv
  have hV := vec_V hv
  have hz : ¬ (v.1 = 0 ∧ v.2 = 0) := fun h => by
    simp only [vecB, Bool.and_eq_true, Bool.not_eq_true', Bool.and_eq_false_iff, beq_eq_false_iff_ne] at hv
    rcases hv.2 with h1 | h1
    · exact h1 h.1
    · exact h1 h.2
  repeat (first | refine VIf.tt ?_ | refine VIf.ff ?_)
  refine VCode.loop cxOK (Nat × Pt) (fun s => ⟨[(1, .box 0 0), (2, .v (.int .i64 0)), (3, .v (.bool false)), (4, .v (.int .i64 0)), (5, .v (.int .i64 s.1))], [(0, some (.box 23 [.v (.int .i64 s.2.1), .v (.int .i64 s.2.2)]))], 1, M, 46, ⟨fun _ => none, none, fun _ => none⟩⟩)
    (fun s => isV s.2 ∧ ¬ (s.2.1 = 0 ∧ s.2.2 = 0) ∧ rotN s.1 s.2 = v ∧ s.1 + qd s.2 ≤ 3) (fun s => qd s.2) (0, v) ⟨hV, hz, rfl, by have := qd_le v; simp only; omega⟩ (Wk.mk' id (by repeat' constructor) (by repeat' constructor) (injOK_id _) rfl rfl rfl) ?_
  rintro ⟨t, p⟩ ⟨hpV, hpz, hrot, hq⟩ m
  simp only at hpV hpz hrot hq
  obtain ⟨c1, c2, c3, c4⟩ := hpV
  repeat (first | refine VIf.tt ?_ | refine VIf.ff ?_)
  refine VIf.mk (fun h1 => ?_) (fun h1 => ?_)
  · repeat (first | refine VIf.tt ?_ | refine VIf.ff ?_)
    repeat (first | refine VIf.tt ?_ | refine VIf.ff ?_)
    refine VArith.ok (by first | omega | (simp only; omega)) (by first | omega | (simp only; omega)) ?_
    repeat (first | refine VIf.tt ?_ | refine VIf.ff ?_)
    refine VArith.ok (by first | omega | (simp only; omega)) (by first | omega | (simp only; omega)) ?_
    have hs := qd_step hpz (.inl (of_decide_eq_true h1))
    refine ⟨(t + 1, rotR p), ⟨⟨c3, c4, by show -1000000 ≤ -p.1; omega, by show -p.1 ≤ 1000000; omega⟩, fun h => hpz ⟨by have := h.2; simp only [rotR] at this; omega, h.1⟩, ?_, by simp only; omega⟩, by simp only; omega, (Wk.mk' id (by repeat' constructor) (by repeat' constructor) (injOK_id _) rfl rfl rfl)⟩
    rw [rotN_comm, rotLR]; exact hrot
  repeat (first | refine VIf.tt ?_ | refine VIf.ff ?_)
  refine VIf.mk (fun h2 => ?_) (fun h2 => ?_)
  · repeat (first | refine VIf.tt ?_ | refine VIf.ff ?_)
    repeat (first | refine VIf.tt ?_ | refine VIf.ff ?_)
    refine VArith.ok (by first | omega | (simp only; omega)) (by first | omega | (simp only; omega)) ?_
    repeat (first | refine VIf.tt ?_ | refine VIf.ff ?_)
    refine VArith.ok (by first | omega | (simp only; omega)) (by first | omega | (simp only; omega)) ?_
    have hs := qd_step hpz (.inr (of_decide_eq_true h2))
    refine ⟨(t + 1, rotR p), ⟨⟨c3, c4, by show -1000000 ≤ -p.1; omega, by show -p.1 ≤ 1000000; omega⟩, fun h => hpz ⟨by have := h.2; simp only [rotR] at this; omega, h.1⟩, ?_, by simp only; omega⟩, by simp only; omega, (Wk.mk' id (by repeat' constructor) (by repeat' constructor) (injOK_id _) rfl rfl rfl)⟩
    rw [rotN_comm, rotLR]; exact hrot
  have hx : 0 < p.1 := by have := of_decide_eq_false h1; simp only at this; omega
  have hy : 0 ≤ p.2 := by have := of_decide_eq_false h2; simp only at this; omega
  repeat (first | refine VIf.tt ?_ | refine VIf.ff ?_)
  repeat (first | refine VIf.tt ?_ | refine VIf.ff ?_)
  refine VFn.mk _ (rays_fn 0 15 M) ?_
  rintro rs M1 hM1 ⟨B1, B2, rfl, hB1, hB2⟩
  have hpV' : isV p := ⟨c1, c2, c3, c4⟩
  repeat (first | refine VIf.tt ?_ | refine VIf.ff ?_)
  refine VCode.rangeB cxOK rfl (rays_iter 0 15 (by omega) (by omega) M1 B1 B2 hB1 hB2) (fun x hx => ?_) [(1, .box 0 0), (5, .v (.int .i64 t)), (6, .box 1 0), (7, .box 2 0)] rfl (by kernel_rfl) (by kernel_rfl) (Nat × Bool)
    (fun _ s => ⟨[(1, .box 0 0), (5, .v (.int .i64 t)), (6, .box 1 0), (7, .box 2 0)], [(2, some (.box 4 [.v (.bool s.2)])), (1, some (.box 3 [.v (.int .i64 s.1)])), (0, some (.box 23 [.v (.int .i64 p.1), .v (.int .i64 p.2)]))], 3, M1, 46, ⟨fun _ => none, none, fun _ => none⟩⟩)
    (fun k s => FndP p k s) (0, false) (fun h => absurd h (Nat.lt_irrefl _)) (Wk.mk' id (by repeat' constructor) (by repeat' constructor) (injOK_id _) rfl rfl rfl) (fun k s => ⟨rfl, rfl⟩) ?_ ?_
  · simp only [raysL, List.mem_map] at hx
    obtain ⟨k, _, rfl⟩ := hx
    rfl
  · rintro k ⟨fo, on⟩ args hF hxs m f
    obtain ⟨hk, rfl⟩ := raysL_get hxs
    intro m'
    rw [Nat.zero_add]
    repeat (first | refine VIf.tt ?_ | refine VIf.ff ?_)
    refine VFn.p (crossRay_fn (rayP k) p M1 (R_V (ray_R k)) hpV') ?_
    repeat (first | refine VIf.tt ?_ | refine VIf.ff ?_)
    refine VIf.mk (fun hc => ?_) (fun hc => ?_)
    · repeat (first | refine VIf.tt ?_ | refine VIf.ff ?_)
      refine VFn.p (isOn_fn (rayP k) p M1 (R_V (ray_R k)) hpV') ?_
      have hc := of_decide_eq_true hc
      exact ⟨(k % 64, decide (crs (rayP k) p = 0) && decide (0 < dot2 (rayP k) p)), by rw [Nat.mod_eq_of_lt (by omega)]; exact fnd_put hc, (Wk.mk' id (by repeat' constructor) (by repeat' constructor) (injOK_id _) rfl rfl rfl)⟩
    · refine ⟨(fo, on), fnd_step hy hF (by have := of_decide_eq_false hc; omega), (Wk.mk' id (by repeat' constructor) (by repeat' constructor) (injOK_id _) rfl rfl rfl)⟩
  · rintro ⟨fo, on⟩ m' hF
    have hF : FndP p 16 (fo, on) := hF
    obtain ⟨hO, hon, hlt⟩ := fnd_of hx hF
    simp only at hO hon hlt
    obtain ⟨hO2, hon2⟩ := ofS_rotN hO t
    rw [hrot] at hO2 hon2
    repeat (first | refine VIf.tt ?_ | refine VIf.ff ?_)
    refine VDraw.go (by kernel_rfl) ?_
    repeat (first | refine VIf.tt ?_ | refine VIf.ff ?_)
    refine VArith.ok (by first | omega | (simp only; omega)) (by first | omega | (simp only; omega)) ?_
    repeat (first | refine VIf.tt ?_ | refine VIf.ff ?_)
    refine VArith.ok (by first | omega | (simp only; omega)) (by first | omega | (simp only; omega)) ?_
    repeat (first | refine VIf.tt ?_ | refine VIf.ff ?_)
    refine VDiv.mk (by decide) ?_
    repeat (first | refine VIf.tt ?_ | refine VIf.ff ?_)
    refine VFact.mk ?_ trivial
    rw [hv]
    refine ⟨(fo + 16 * t) % 64, hO2, ?_⟩
    rw [hon2, ← hon]
    have em : ((fo : Int) + 16 * (t : Int)).tmod 64 = (((fo + 16 * t) % 64 : Nat) : Int) := by rw [Int.tmod_eq_emod_of_nonneg (by omega)]; omega
    exact congrArg (fun n => [Value.int .i64 n, Value.bool on, Value.int .i64 0]) em
end Go.Proofs.YtlppfikkgcfaoaaGreat

/- Contracts: region.Has. -/
namespace Go.Proofs.YtlppfikkgcfaoaaGreat
open Go Go.V Go.RowKit
theorem Valid_is {v : Value} {ps : List Pt} {M : Mem} {b : Bool} (hv : Pts M v ps) (hi64 : i64P ps) (hb : validB ps = b) : V.Fn Tryz.prog 66 [v] M fun rs _ => rs = [.bool b] :=
  (Valid_fn v ps M hv hi64).mono fun rs M' _ h => by rw [h, hb]
end Go.Proofs.YtlppfikkgcfaoaaGreat

/- Contracts: hull.Hull of one place; package mink's Shift. -/
namespace Go.Proofs.YtlppfikkgcfaoaaGreat
open Go Go.V Go.RowKit
theorem IndexP_fn (v : Value) (ps : List Pt) (fid : Nat) (g : Pt → Bool) (M : Mem) (hv : Pts M v ps) (hg : ∀ i, i < ps.length → ∀ M', FnP Tryz.prog fid [ptv (gp ps i)] M' [.bool (g (gp ps i))]) :
    V.Fn Tryz.prog 58 [v, .func (.func fid) #[] #[]] M fun rs _ => ∃ k : Int, rs = [.int .i64 k] ∧ (0 ≤ k ↔ ps.any g = true) := by
  obtain ⟨ad, c, rfl⟩ := hv.shape
  obtain ⟨_, hm, hrd⟩ := hv.cellsOf
  unfold maxLen at hm
  refine Fn.of_vc cxOK Tryz.func58 rfl rfl rfl ?_
  repeat (first | refine VIf.tt ?_ | refine VIf.ff ?_)
  refine VCode.loop cxOK Nat (fun i => ⟨[(0, .v (.slice ad ps.length c)), (1, .v (.func (.func fid) #[] #[])), (7, .v (.int .i64 ps.length)), (8, .v (.int .i64 i))], [], 0, M, 19, ⟨fun _ => none, none, fun _ => none⟩⟩)
    (fun i => i ≤ ps.length ∧ ∀ j, j < i → g (gp ps j) = false) (fun i => ps.length - i) 0 ⟨Nat.zero_le _, fun j hj => by simp at hj⟩ (Wk.mk' id (by repeat' constructor) (by repeat' constructor) (injOK_id _) rfl rfl rfl) ?_
  rintro i ⟨hi, hz⟩ m
  repeat (first | refine VIf.tt ?_ | refine VIf.ff ?_)
  refine VIf.mk (fun hlt => ?_) (fun hge => ?_)
  · have hlt := lt_of_dec hlt
    obtain ⟨ad', ead, hpi⟩ := hrd M (Mem.le_refl _) i hlt
    repeat (first | refine VIf.tt ?_ | refine VIf.ff ?_)
    refine VIdx.mk ad' i ead rfl hlt ?_
    repeat (first | refine VIf.tt ?_ | refine VIf.ff ?_)
    refine VReads.mk [.int .i64 (gp ps i).1, .int .i64 (gp ps i).2] rfl hpi ?_
    repeat (first | refine VIf.tt ?_ | refine VIf.ff ?_)
    refine VFn.p (hg i hlt M) ?_
    repeat (first | refine VIf.tt ?_ | refine VIf.ff ?_)
    refine VIf.mk (fun hc => ?_) (fun hc => ?_)
    · repeat (first | refine VIf.tt ?_ | refine VIf.ff ?_)
      refine VFact.mk ⟨i, rfl, ?_⟩ trivial
      have := any_getD (0, 0) g ps hlt hc
      simp [this]
    · repeat (first | refine VIf.tt ?_ | refine VIf.ff ?_)
      refine VArith.ok (by first | omega | (simp only; omega)) (by first | omega | (simp only; omega)) ?_
      refine ⟨i + 1, ⟨hlt, fun j hj => ?_⟩, (by first | omega | (simp only; omega)), (Wk.mk' id (by repeat' constructor) (by repeat' constructor) (injOK_id _) rfl rfl rfl)⟩
      by_cases e : j = i
      · subst e; exact hc
      · exact hz j (by omega)
  · have : i = ps.length := by have := ge_of_dec hge; omega
    subst this
    repeat (first | refine VIf.tt ?_ | refine VIf.ff ?_)
    refine VFact.mk ⟨-1, rfl, ?_⟩ trivial
    have := any_none (0, 0) g ps hz
    simp [this]
theorem ContainsP_fn (v : Value) (ps : List Pt) (fid : Nat) (g : Pt → Bool) (M : Mem) (hv : Pts M v ps) (hg : ∀ i, i < ps.length → ∀ M', FnP Tryz.prog fid [ptv (gp ps i)] M' [.bool (g (gp ps i))]) :
    V.Fn Tryz.prog 43 [v, .func (.func fid) #[] #[]] M fun rs _ => rs = [.bool (ps.any g)] := by
  obtain ⟨ad, c, rfl⟩ := hv.shape
  refine Fn.of_vc cxOK Tryz.func43 rfl rfl rfl ?_
  repeat (first | refine VIf.tt ?_ | refine VIf.ff ?_)
  refine VFn.mk _ (IndexP_fn _ ps fid g M hv hg) ?_
  rintro rs M1 hM1 ⟨k, rfl, hk⟩
  repeat (first | refine VIf.tt ?_ | refine VIf.ff ?_)
  refine VFact.mk (bool1 ?_) trivial
  rw [← hk]; simp
theorem Hull1_fn (p : Pt) (h1 : i64r p.1) (h2 : i64r p.2) (M : Mem) : FnP Tryz.prog 44 [ptv p] M [.bool (!placeB p)] := by
  refine Fn.of_vc cxOK Tryz.func44 rfl rfl rfl ?_
  repeat (first | refine VIf.tt ?_ | refine VIf.ff ?_)
  refine VFn.p (isPlace_fn _ _ _ h1 h2) ?_
  repeat (first | refine VIf.tt ?_ | refine VIf.ff ?_)
  exact VFact.mk ⟨rfl, rfl⟩ trivial
theorem Clone_fn (v : Value) (ps : List Pt) (M : Mem) (hv : Pts M v ps) (hn : 1 ≤ ps.length) (hn' : ps.length ≤ 100000) : V.Fn Tryz.prog 59 [v] M fun rs M' => ∃ u, rs = [u] ∧ Pts M' u ps := by
  obtain ⟨ad, c, rfl⟩ := hv.shape
  obtain ⟨_, hm, hrd⟩ := hv.cellsOf
  obtain ⟨ad', rfl, _⟩ := hrd M (Mem.le_refl _) 0 (by omega)
  refine Fn.of_vc cxOK Tryz.func59 rfl rfl rfl ?_
  repeat (first | refine VIf.tt ?_ | refine VIf.ff ?_)
  refine VSl.mk ps.length (cellsP ps) hv ?_
  repeat (first | refine VIf.tt ?_ | refine VIf.ff ?_)
  refine VFact.mk (by simp only; omega) ?_
  repeat (first | refine VIf.tt ?_ | refine VIf.ff ?_)
  refine VFz.mk fun x B M' hle hx => ?_
  repeat (first | refine VIf.tt ?_ | refine VIf.ff ?_)
  refine VFact.mk ⟨x, rfl, ?_⟩ trivial
  have e : SlAt M' 2 x (0 + ps.length) ([] ++ cellsP ps) := hx
  rw [Nat.zero_add, List.nil_append] at e
  exact e
theorem insert1_fn (v : Value) (f : Nat) (M : Mem) : FnP Tryz.prog 86 [v, .int .i64 0, .int .i64 1, .func (.func f) #[] #[]] M [] := by
  refine Fn.of_vc cxOK Tryz.func86 rfl rfl rfl ?_
  repeat (first | refine VIf.tt ?_ | refine VIf.ff ?_)
  refine VArith.ok (by first | omega | (simp only; omega)) (by first | omega | (simp only; omega)) ?_
  repeat (first | refine VIf.tt ?_ | refine VIf.ff ?_)
  refine VCode.loop cxOK Unit (fun _ => ⟨[(2, .v (.int .i64 1)), (8, .v (.int .i64 1))], [], 0, M, 53, ⟨fun _ => none, none, fun _ => none⟩⟩) (fun _ => True) (fun _ => 0) () trivial (Wk.mk' id (by repeat' constructor) (by repeat' constructor) (injOK_id _) rfl rfl rfl) ?_
  rintro _ _ m
  repeat (first | refine VIf.tt ?_ | refine VIf.ff ?_)
  exact VFact.mk ⟨rfl, rfl⟩ trivial
theorem pdq1_fn (v : Value) (f : Nat) (l : Int) (M : Mem) : FnP Tryz.prog 75 [v, .int .i64 0, .int .i64 1, .int .i64 l, .func (.func f) #[] #[]] M [] := by
  refine Fn.of_vc cxOK Tryz.func75 rfl rfl rfl ?_
  repeat (first | refine VIf.tt ?_ | refine VIf.ff ?_)
  refine VCode.loop cxOK Unit (fun _ => ⟨[(0, .v v), (1, .v (.int .i64 0)), (2, .v (.int .i64 1)), (4, .v (.func (.func f) #[] #[]))], [], 0, M, 148, ⟨fun _ => none, none, fun _ => none⟩⟩) (fun _ => True) (fun _ => 0) () trivial (Wk.mk' id (by repeat' constructor) (by repeat' constructor) (injOK_id _) rfl rfl rfl) ?_
  rintro _ _ m
  repeat (first | refine VIf.tt ?_ | refine VIf.ff ?_)
  refine VArith.ok (by first | omega | (simp only; omega)) (by first | omega | (simp only; omega)) ?_
  repeat (first | refine VIf.tt ?_ | refine VIf.ff ?_)
  refine VFn.p (insert1_fn _ _ _) ?_
  repeat (first | refine VIf.tt ?_ | refine VIf.ff ?_)
  exact VFact.mk ⟨rfl, rfl⟩ trivial
end Go.Proofs.YtlppfikkgcfaoaaGreat

/- Contract: the number of bits of one. -/
namespace Go.Proofs.YtlppfikkgcfaoaaGreat
open Go Go.V Go.RowKit
set_option maxRecDepth 100000 in
set_option maxHeartbeats 1000000 in
theorem len64_one (w : World) : Calls Tryz.prog 95 #[.int .u64 1] w fun e w' => e = .returned (.int .i64 1) ∧ w' = w := by
  go_enter Tryz.func95, Tryz.ntmps95
  go_wp2
  go_ret
  exact ⟨by kernel_rfl, rfl⟩
set_option maxRecDepth 100000 in
set_option maxHeartbeats 1000000 in
theorem len_one_any (w : World) : Calls Tryz.prog 76 #[.int .u64 1] w fun e w' => e = .returned (.int .i64 1) ∧ w' = w := by
  go_enter Tryz.func76, Tryz.ntmps76
  go_wp2_with (go_at_call 95; refine (len64_one _).mono ?_; rintro e w' ⟨rfl, rfl⟩)
  go_ret
  exact ⟨by kernel_rfl, rfl⟩
theorem FnP.of_same {P : Program} {f : Nat} {args : List Value} {M : Mem} {vs : List Value} (he : Enters P f) (h : ∀ W, Calls P f args.toArray W fun e w' => e = .returned (ret vs) ∧ w' = W) : FnP P f args M vs :=
  ⟨he, fun W hW => (h W).mono fun e w' ⟨h1, h2⟩ => ⟨vs, M, h1, h2 ▸ Below.refl _ _, Mem.le_refl _, h2 ▸ hW, fun _ _ => rfl, rfl, rfl⟩⟩
theorem Len1_fn (M : Mem) : FnP Tryz.prog 76 [.int .u64 1] M [.int .i64 1] :=
  FnP.of_same (enters_of Tryz.func76 (by kernel_rfl) rfl) len_one_any
end Go.Proofs.YtlppfikkgcfaoaaGreat

/- Contracts: hull.Hull of one place; package mink's Shift: the joins. -/
namespace Go.Proofs.YtlppfikkgcfaoaaGreat
open Go Go.V Go.RowKit
theorem sort1_fn (ad : Option Addr) (c f : Nat) (M : Mem) : FnP Tryz.prog 60 [.slice ad 1 c, .func (.func f) #[] #[]] M [] := by
  refine Fn.of_vc cxOK Tryz.func60 rfl rfl rfl ?_
  repeat (first | refine VIf.tt ?_ | refine VIf.ff ?_)
  refine VArith.ok (by first | omega | (simp only; omega)) (by first | omega | (simp only; omega)) ?_
  repeat (first | refine VIf.tt ?_ | refine VIf.ff ?_)
  refine VFn.p (Len1_fn _) ?_
  repeat (first | refine VIf.tt ?_ | refine VIf.ff ?_)
  refine VFn.p (pdq1_fn _ _ _ _) ?_
  repeat (first | refine VIf.tt ?_ | refine VIf.ff ?_)
  exact VFact.mk ⟨rfl, rfl⟩ trivial
theorem compact1_fn (ad : Option Addr) (c : Nat) (M : Mem) : FnP Tryz.prog 63 [.slice ad 1 c] M [.slice ad 1 c] := by
  refine Fn.of_vc cxOK Tryz.func63 rfl rfl rfl ?_
  repeat (first | refine VIf.tt ?_ | refine VIf.ff ?_)
  exact VFact.mk ⟨rfl, rfl⟩ trivial
theorem around1_fn (v : Value) (p : Pt) (M : Mem) (hv : Pts M v [p]) : V.Fn Tryz.prog 46 [v] M fun rs M' => ∃ u, rs = [u] ∧ Pts M' u [p] := by
  refine Fn.of_vc cxOK Tryz.func46 rfl rfl rfl ?_
  repeat (first | refine VIf.tt ?_ | refine VIf.ff ?_)
  refine VFn.mk _ (Clone_fn v [p] M hv (by simp) (by simp)) ?_
  rintro rs M1 hM1 ⟨u, rfl, hu⟩
  obtain ⟨ud, uc, rfl⟩ := hu.shape
  repeat (first | refine VIf.tt ?_ | refine VIf.ff ?_)
  refine VFn.p (sort1_fn _ _ _ _) ?_
  repeat (first | refine VIf.tt ?_ | refine VIf.ff ?_)
  refine VFn.p (compact1_fn _ _ _) ?_
  repeat (first | refine VIf.tt ?_ | refine VIf.ff ?_)
  exact VFact.mk ⟨_, rfl, hu⟩ trivial
theorem HullOne_fn (v : Value) (p : Pt) (M : Mem) (hv : Pts M v [p]) (h1 : i64r p.1) (h2 : i64r p.2) : V.Fn Tryz.prog 27 [v] M fun rs M' => if placeB p = true then ∃ u, rs = [u, .int .i64 0] ∧ Pts M' u [p] else rs = [.slice none 0 0, .int .i64 1] := by
  obtain ⟨ad, c, rfl⟩ := hv.shape
  refine Fn.of_vc cxOK Tryz.func27 rfl rfl rfl ?_
  repeat (first | refine VIf.tt ?_ | refine VIf.ff ?_)
  refine VFn.mk _ (ContainsP_fn _ [p] _ (fun p => !placeB p) M hv fun i hi M' => ?_) ?_
  · have : i = 0 := by simp at hi; omega
    subst this
    exact Hull1_fn p h1 h2 M'
  rintro rs M1 hM1 rfl
  repeat (first | refine VIf.tt ?_ | refine VIf.ff ?_)
  refine VIf.mk (fun h => ?_) (fun h => ?_)
  · repeat (first | refine VIf.tt ?_ | refine VIf.ff ?_)
    refine VFact.mk ?_ trivial
    have h : placeB p = false := by simpa using h
    simp only [h, Bool.false_eq_true, if_false]
  · have h : placeB p = true := by simpa using h
    repeat (first | refine VIf.tt ?_ | refine VIf.ff ?_)
    refine VFn.mk _ (around1_fn _ p M1 (hv.le hM1)) ?_
    rintro rs M2 hM2 ⟨u, rfl, hu⟩
    obtain ⟨ud, uc, rfl⟩ := hu.shape
    repeat (first | refine VIf.tt ?_ | refine VIf.ff ?_)
    refine VFact.mk ?_ trivial
    simp only [h, if_true]
    exact ⟨_, rfl, hu⟩
def moveP (q : Pt) (ps : List Pt) : List Pt := ps.map fun p => (p.1 + q.1, p.2 + q.2)
theorem take_map (q : Pt) (ps : List Pt) {i : Nat} (h : i < ps.length) : moveP q (ps.take (i + 1)) = moveP q (ps.take i) ++ [((gp ps i).1 + q.1, (gp ps i).2 + q.2)] := by
  unfold moveP
  rw [List.take_add_one, List.map_append]
  simp [gp, h]
/-- What Shift comes to. -/
def shiftB (ps : List Pt) (q : Pt) : Option (List Pt) := if (validB ps && placeB q) = true then (if validB (moveP q ps) = true then some (moveP q ps) else none) else none
end Go.Proofs.YtlppfikkgcfaoaaGreat

/- The comparison that hull.around sorts by, its worlds written out. -/
namespace Go.Proofs.YtlppfikkgcfaoaaGreat
open Go Go.RowKit Go.Sort
set_option maxHeartbeats 400000 in
theorem isNaN_any (x : Int) (w : World) :
    Calls Tryz.prog 96 #[.int .i64 x] w fun e w' => e = .returned (.bool false) ∧ w = w' := by
  go_enter Tryz.func96, Tryz.ntmps96
  go_wp2
  go_ret
  exact ⟨rfl, rfl⟩
set_option maxHeartbeats 400000 in
theorem cmpCompare_any (x y : Int) (w : World) :
    Calls Tryz.prog 78 #[.int .i64 x, .int .i64 y] w fun e w' => e = .returned (.int .i64 (cmpI x y)) ∧ w = w' := by
  go_enter Tryz.func78, Tryz.ntmps78
  go_wp2_with (go_at_call 96; refine (isNaN_any _ _).mono ?_; rintro e w' ⟨rfl, rfl⟩)
  all_goals
    go_ret
    exact ⟨by unfold cmpI; simp <;> omega, rfl⟩
set_option maxHeartbeats 400000 in
theorem cmpOr2_any (x y : Int) (w : World) (b : Nat) (h0 : w.cell? ⟨b, 0, none⟩ = some (.int .i64 x)) (h1 : w.cell? ⟨b, 1, none⟩ = some (.int .i64 y)) :
    Calls Tryz.prog 77 #[.slice (some ⟨b, 0, none⟩) 2 2] w fun e w' => e = .returned (.int .i64 (if x = 0 then y else x)) ∧ w = w' := by
  by_cases hx : x = 0
  · subst hx
    by_cases hy : y = 0
    · subst hy
      go_enter Tryz.func77, Tryz.ntmps77
      go_wp2
      go_rounds 3
      all_goals go_ret
      all_goals exact ⟨by simp, rfl⟩
    · have hy1 : (y == 0) = false := by simp [hy]
      have hy2 : (y != 0) = true := by simp [hy]
      go_enter Tryz.func77, Tryz.ntmps77
      go_wp2
      go_rounds 3
      all_goals go_ret
      all_goals exact ⟨by simp, rfl⟩
  · have hy2 : (x != 0) = true := by simp [hx]
    go_enter Tryz.func77, Tryz.ntmps77
    go_wp2
    go_rounds 2
    all_goals go_ret
    all_goals exact ⟨by simp [hx], rfl⟩
def cmpQ (ax ay bx by' : Int) : Int := if cmpI ax bx = 0 then cmpI ay by' else cmpI ax bx
theorem cmpOr2_is {x y r : Int} (hr : (if x = 0 then y else x) = r) (w : World) (b : Nat) (h0 : w.cell? ⟨b, 0, none⟩ = some (.int .i64 x)) (h1 : w.cell? ⟨b, 1, none⟩ = some (.int .i64 y)) :
    Calls Tryz.prog 77 #[.slice (some ⟨b, 0, none⟩) 2 2] w fun e w' => e = .returned (.int .i64 r) ∧ w = w' := hr ▸ cmpOr2_any x y w b h0 h1
set_option maxHeartbeats 2000000 in
set_option maxRecDepth 100000 in
theorem compare_any (ax ay bx by' r : Int) (hr : cmpQ ax ay bx by' = r) (w : World) :
    Calls Tryz.prog 62 #[.agg #[.int .i64 ax, .int .i64 ay], .agg #[.int .i64 bx, .int .i64 by']] w fun e w' => e = .returned (.int .i64 r) ∧ ∃ q os', w' = grow (w.drewN q) os' := by
  have h3 := fun W b => cmpOr2_is (x := cmpI ax bx) (y := cmpI ay by') hr W b
  clear hr
  go_enter Tryz.func62, Tryz.ntmps62
  go_wp2_with fail
  go_region_held3 (fun w' => w'.cell? ⟨w.heap.size, 0, none⟩ = some (.int .i64 ax) ∧ w'.cell? ⟨w.heap.size, 1, none⟩ = some (.int .i64 ay) ∧ w'.cell? ⟨w.heap.size + 1, 0, none⟩ = some (.int .i64 bx) ∧ w'.cell? ⟨w.heap.size + 1, 1, none⟩ = some (.int .i64 by')) 
   (first | go_keep | simp)
   (first | (go_at_call 78; refine (cmpCompare_any _ _ _).mono ?_; rintro e w' ⟨rfl, rfl⟩) | (go_at_call 77; refine (h3 _ _ (by go_cell) (by go_cell)).mono ?_; rintro e w' ⟨rfl, rfl⟩))
  go_wp2
  go_ret
  exact ⟨rfl, 1, #[.cells #[.int .i64 ax, .int .i64 ay] 23, .cells #[.int .i64 bx, .int .i64 by'] 23, .cells #[.int .i64 (cmpI ax bx), .int .i64 (cmpI ay by')] 3], by
    rw [alloc_eq_grow, alloc_eq_grow, alloc_eq_grow, grow_grow, grow_grow]; rfl⟩
set_option maxHeartbeats 1000000 in
theorem around1_any (ax ay bx by' r : Int) (hr : cmpQ ax ay bx by' = r) (w : World) :
    Calls Tryz.prog 61 #[.agg #[.int .i64 ax, .int .i64 ay], .agg #[.int .i64 bx, .int .i64 by']] w fun e w' => e = .returned (.int .i64 r) ∧ ∃ q os', w' = grow (w.drewN q) os' := by
  have h3 := fun W => compare_any ax ay bx by' r hr W
  clear hr
  go_enter Tryz.func61, Tryz.ntmps61
  go_wp2_with (go_at_call 62; refine (h3 _).mono ?_; rintro e w' ⟨rfl, q, os', rfl⟩)
  go_ret
  exact ⟨rfl, q, #[.cells #[.int .i64 ax, .int .i64 ay] 23, .cells #[.int .i64 bx, .int .i64 by'] 23] ++ os', by
    rw [alloc_eq_grow, alloc_eq_grow, show ∀ (a b : Array Obj), (grow (grow w a) b).drewN q = grow (grow (w.drewN q) a) b from fun _ _ => rfl, grow_grow, grow_grow]
    congr 1
    rw [← Array.append_assoc]; rfl⟩
end Go.Proofs.YtlppfikkgcfaoaaGreat

/- slices.SortFunc at places: the record of its family, and what it leaves in a row. -/
namespace Go.Proofs.YtlppfikkgcfaoaaGreat
open Go Go.V Go.RowKit Go.Sort Go.Shelf Go.Lib
/-- The numbers that the kit's names have here. -/
def ptRen : Ren where
  f := fun
    | 6 => 60
    | 14 => 75
    | 15 => 76
    | 20 => 86
    | 21 => 87
    | 22 => 88
    | 23 => 89
    | 24 => 90
    | 25 => 91
    | 26 => 92
    | 27 => 93
    | 28 => 94
    | 29 => 95
    | 46 => 98
    | 47 => 99
    | 48 => 100
    | 49 => 101
    | 50 => 102
    | 57 => 103
    | n => n
  t := fun
    | 0 => 0
    | 3 => 3
    | 4 => 4
    | 5 => 5
    | 9 => 9
    | 22 => 34
    | 25 => 43
    | 39 => 92
    | 45 => 102
    | 46 => 103
    | 50 => 107
    | 53 => 110
    | 55 => 112
    | 66 => 113
    | 70 => 117
    | 76 => 119
    | 77 => 73
    | 24 => 23
    | n => n
  g := fun n => n
/-- slices.SortFunc and all that it reaches lies here. -/
theorem ptLay : SlLaysF0.n6 Tryz.prog ptRen where
  mixed := rfl
  f6 := ⟨Tryz.f60.name, by kernel_rfl, Tryz.func60.trans (by kernel_rfl)⟩
  f14 := ⟨Tryz.f75.name, by kernel_rfl, Tryz.func75.trans (by kernel_rfl)⟩
  f15 := Tryz.func76.trans (by kernel_rfl)
  f20 := ⟨Tryz.f86.name, by kernel_rfl, Tryz.func86.trans (by kernel_rfl)⟩
  f21 := ⟨Tryz.f87.name, by kernel_rfl, Tryz.func87.trans (by kernel_rfl)⟩
  f22 := ⟨Tryz.f88.name, by kernel_rfl, Tryz.func88.trans (by kernel_rfl)⟩
  f23 := ⟨Tryz.f89.name, by kernel_rfl, Tryz.func89.trans (by kernel_rfl)⟩
  f24 := ⟨Tryz.f90.name, by kernel_rfl, Tryz.func90.trans (by kernel_rfl)⟩
  f25 := ⟨Tryz.f91.name, by kernel_rfl, Tryz.func91.trans (by kernel_rfl)⟩
  f26 := ⟨Tryz.f92.name, by kernel_rfl, Tryz.func92.trans (by kernel_rfl)⟩
  f27 := ⟨Tryz.f93.name, by kernel_rfl, Tryz.func93.trans (by kernel_rfl)⟩
  f28 := Tryz.func94.trans (by kernel_rfl)
  f29 := Tryz.func95.trans (by kernel_rfl)
  f46 := ⟨Tryz.f98.name, by kernel_rfl, Tryz.func98.trans (by kernel_rfl)⟩
  f47 := Tryz.func99.trans (by kernel_rfl)
  f48 := Tryz.func100.trans (by kernel_rfl)
  f49 := ⟨Tryz.f101.name, by kernel_rfl, Tryz.func101.trans (by kernel_rfl)⟩
  f50 := ⟨Tryz.f102.name, by kernel_rfl, Tryz.func102.trans (by kernel_rfl)⟩
  f57 := ⟨Tryz.f103.name, by kernel_rfl, Tryz.func103.trans (by kernel_rfl)⟩
  t0 := Tryz.underlying0
  a0 := Tryz.isAgg0
  z0 := Tryz.sizeOf0
  v0 := Tryz.zeroValue0
  t3 := Tryz.underlying3
  a3 := Tryz.isAgg3
  z3 := Tryz.sizeOf3
  v3 := Tryz.zeroValue3
  t4 := Tryz.underlying4
  a4 := Tryz.isAgg4
  z4 := Tryz.sizeOf4
  v4 := Tryz.zeroValue4
  t5 := Tryz.underlying5
  a5 := Tryz.isAgg5
  z5 := Tryz.sizeOf5
  v5 := Tryz.zeroValue5
  t9 := Tryz.underlying9
  a9 := Tryz.isAgg9
  z9 := Tryz.sizeOf9
  v9 := Tryz.zeroValue9
  t22 := Tryz.underlying34
  a22 := Tryz.isAgg34
  z22 := Tryz.sizeOf34
  v22 := Tryz.zeroValue34
  t25 := Tryz.underlying43
  a25 := Tryz.isAgg43
  z25 := Tryz.sizeOf43
  v25 := Tryz.zeroValue43
  t39 := Tryz.underlying92
  a39 := Tryz.isAgg92
  z39 := Tryz.sizeOf92
  v39 := Tryz.zeroValue92
  t45 := Tryz.underlying102
  a45 := Tryz.isAgg102
  z45 := Tryz.sizeOf102
  v45 := Tryz.zeroValue102
  t46 := Tryz.underlying103
  a46 := Tryz.isAgg103
  z46 := Tryz.sizeOf103
  v46 := Tryz.zeroValue103
  t50 := Tryz.underlying107
  a50 := Tryz.isAgg107
  z50 := Tryz.sizeOf107
  v50 := Tryz.zeroValue107
  t53 := Tryz.underlying110
  a53 := Tryz.isAgg110
  z53 := Tryz.sizeOf110
  v53 := Tryz.zeroValue110
  t55 := Tryz.underlying112
  a55 := Tryz.isAgg112
  z55 := Tryz.sizeOf112
  v55 := Tryz.zeroValue112
  t66 := Tryz.underlying113
  a66 := Tryz.isAgg113
  z66 := Tryz.sizeOf113
  v66 := Tryz.zeroValue113
  t70 := Tryz.underlying117
  a70 := Tryz.isAgg117
  z70 := Tryz.sizeOf117
  v70 := Tryz.zeroValue117
  t76 := Tryz.underlying119
  a76 := Tryz.isAgg119
  z76 := Tryz.sizeOf119
  v76 := Tryz.zeroValue119
  t77 := Tryz.underlying73
  a77 := Tryz.isAgg73
  z77 := Tryz.sizeOf73
  v77 := Tryz.zeroValue73
end Go.Proofs.YtlppfikkgcfaoaaGreat

/- A call of slices.SortFunc on a growing slice of one's own: the slice is sorted. -/
namespace Go.Proofs.YtlppfikkgcfaoaaGreat
open Go Go.V Go.RowKit
/-- A call that turns one growing slice alone. -/
theorem VCall.set {P : Program} {f : Nat} {args : List SV} {st : St} {K : SV → St → Prop} (he : Enters P f) {id E sz n : Nat} {xs ys : List Value} (hid : st.own id = some (.row E sz n xs)) (h1 : ∀ y ∈ ys, y.oneCell' = true)
    (h : ∀ n₀ W v ρ, slOf (ρ id) = v → W.ownsRow n₀ E sz v n xs → Calls P f (args.map (SV.den ρ)).toArray W fun e W' => e = .returned (.tuple #[]) ∧ W.grownBy W' (ob v) ∧ W'.ownsRow n₀ E sz v n ys)
    (hK : K (.v (.tuple #[])) { st with ow := (id, some (.row E sz n ys)) :: st.ow }) : VCall P f args st K := by
  refine ⟨he, fun n₀ w M₀ ρ W hS hsa hss => ?_⟩
  obtain ⟨g1, g2, g3, g4⟩ := hS.own id _ hid
  refine (h n₀ W (ρ id) ρ (ownsRow_isSl g3) g3).mono ?_
  rintro e W' ⟨rfl, k1, k2⟩
  refine ⟨.v (.tuple #[]), _, ρ, rfl, trivial, hS.set (e' := .row E sz n ys) hid k1 trivial ⟨k2, h1⟩, ?_, rfl, rfl, hK⟩
  exact fun d s hd => ⟨hss d s hd, s, hd, rfl⟩

section
open Go.Sort
def encP (p : Pt) : List Value := [.int .i64 p.1, .int .i64 p.2]
theorem cellsP_len (ps : List Pt) : (cellsP ps).length = ps.length * 2 := by
  induction ps with
  | nil => rfl
  | cons p l ih => simp only [cellsP, List.flatMap_cons, List.length_append] at *; simp [ih]; omega
theorem cellsP_enc (ps : List Pt) (t : Nat) (h : t < ps.length * 2) : (cellsP ps)[t]? = some (encP (ps.getD (t / 2) (0, 0)))[t % 2]! := by
  obtain ⟨g1, g2⟩ := cellsP_get ps (t / 2) (by omega)
  rcases Nat.mod_two_eq_zero_or_one t with e | e
  · rw [show 2 * (t / 2) = t by omega] at g1
    rw [e, g1]; rfl
  · rw [show 2 * (t / 2) + 1 = t by omega] at g2
    rw [e, g2]; rfl
theorem flatP (ps : List Pt) : flatK encP 2 ps.toArray = (cellsP ps).toArray := by
  refine ext_get! (by simp [cellsP_len]) fun t ht => ?_
  have ht' : t < ps.length * 2 := by simpa using ht
  rw [get_flatK _ _ _ _ (by simpa using ht')]
  have h1 := cellsP_enc ps t ht'
  have h2 : (cellsP ps).toArray[t]! = ((cellsP ps)[t]?).get! := by
    simp [getElem!_def]
    cases (cellsP ps)[t]? <;> rfl
  have h3 : (ps.toArray)[t / 2]! = ps.getD (t / 2) (0, 0) := by
    have : t / 2 < ps.length := by omega
    simp [getElem!_def, this]
  rw [h2, h1, h3]; rfl
theorem oneP {ps : List Pt} {y : Value} (hy : y ∈ cellsP ps) : y.oneCell' = true := by
  simp only [cellsP, List.mem_flatMap] at hy
  obtain ⟨p, _, hp⟩ := hy
  simp at hp
  rcases hp with rfl | rfl <;> rfl
/-- Less, by X, then by Y. -/
def ltP (a b : Pt) : Bool := ltOf cmpPt a b
theorem ltP_iff (a b : Pt) : ltP a b = true ↔ a.1 < b.1 ∨ a.1 = b.1 ∧ a.2 < b.2 := by
  obtain ⟨a1, a2⟩ := a
  obtain ⟨b1, b2⟩ := b
  simp only [ltP, ltOf, cmpPt, cmpP, cmpI, decide_eq_true_eq]
  repeat' split
  all_goals omega
theorem ltP_ff (a b : Pt) : ltP a b = false ↔ ¬ (a.1 < b.1 ∨ a.1 = b.1 ∧ a.2 < b.2) := by rw [← ltP_iff]; simp
theorem swoP : SWO ltP where
  irrefl x := by rw [ltP_ff]; omega
  trans x y z h1 h2 := by rw [ltP_iff] at *; omega
  ntrans x y z h1 h2 := by rw [ltP_ff] at *; omega
theorem totP (x y : Pt) (h1 : ltP x y = false) (h2 : ltP y x = false) : x = y := by
  rw [ltP_ff] at *
  apply Prod.ext <;> omega
/-- The places, sorted. -/
def sortP (ps : List Pt) : List Pt := ps.mergeSort fun x y => !ltP y x
theorem cmpLaysP (blk off size : Nat) (w : World) : CmpLays Tryz.prog 61 #[] encP 2 cmpPt blk off size w :=
  fun _ _ _ _ x y => around1_any x.1 x.2 y.1 y.2 _ (by simp only [cmpQ, cmpPt, cmpP]; by_cases h : cmpI x.1 y.1 = 0 <;> simp [h]) _
theorem sort_exact {n₀ : Nat} {W : World} {v : Value} {ps : List Pt} (hs : W.ownsRow n₀ 23 2 v ps.length (cellsP ps)) (hsz : ps.length < 4611686018427387904) :
    Calls Tryz.prog 60 #[v, .func (.func 61) #[] #[]] W fun e W' => e = .returned (.tuple #[]) ∧ W.grownBy W' (ob v) ∧ W'.ownsRow n₀ 23 2 v ps.length (cellsP (sortP ps)) := by
  obtain ⟨hlen, hcase⟩ := hs
  rcases hcase with ⟨rfl, h0⟩ | ⟨g, cap, cur, rfl, hg, hh, hnc, hcm, hcs, hct⟩
  · have hp : ps = [] := List.eq_nil_of_length_eq_zero h0
    subst hp
    refine (AnyF.slices_SortFunc_none ptLay none 0 _ W).mono ?_
    rintro e W' ⟨rfl, rfl⟩
    refine ⟨rfl, ⟨rfl, rfl, rfl, Nat.le_refl _, fun _ _ _ => rfl⟩, ?_, .inl ⟨rfl, rfl⟩⟩
    simp [sortP, cellsP]
  · have hlt : g < W.heap.size := (Array.getElem?_eq_some_iff.1 hh).1
    have hcur : ps.length * 2 ≤ cur.size := by rw [hcs]; exact Nat.mul_le_mul_right _ hnc
    have hH : HoldsK encP 2 W g 0 ps.toArray := by
      intro j hj
      rw [flatP] at hj ⊢
      have hj' : j < ps.length * 2 := by simpa [cellsP_len] using hj
      have h2 : id (cellsP ps).toArray[j]! = ((cellsP ps)[j]?).get! := by
        simp [getElem!_def]
        cases (cellsP ps)[j]? <;> rfl
      have h3 : cur[j]? = (cellsP ps)[j]? := by
        rw [← hct, List.getElem?_take, if_pos hj', Array.getElem?_toList]
      refine ⟨?_, ?_⟩
      · rw [h2, ← h3, Nat.zero_add]
        have : j < cur.size := by omega
        simp [World.cell?, hh, this]
      · simp [World.frozen?, hh]
    refine (AnyQ.slices_SortFunc_total ptLay 2 Tryz.isAgg23 Tryz.sizeOf23 encP (fun _ => rfl) (fun x v hv => by simp [encP] at hv; rcases hv with rfl | rfl <;> rfl) cmpPt swoP 61 #[] g 0 cap ps.toArray W
      (enters_of Tryz.func61 (by kernel_rfl) rfl) (cmpLaysP _ _ _ _) hH hlt (by simpa using hsz) (fun x y => totP x y)).mono ?_
    rintro e W' ⟨rfl, m, os, rfl⟩
    have hsl : (sortP ps).length = ps.length := List.length_mergeSort _
    have hrow : (sortWorldK encP 2 W g 0 m (ps.toArray.toList.mergeSort fun x y => !(ltOf cmpPt) y x).toArray os).heap[g]? = some (.cells (putCells id 0 (cellsP (sortP ps)).toArray cur) 23 (0, 0)) := by
      unfold sortWorldK putRowK putRow
      rw [flatP, heap_grow_old _ _ (by simp [mapBlock, Sort.ahead]; exact hlt)]
      simp only [mapBlock, Sort.ahead, Array.getElem?_modify, if_true]
      rw [hh]
      rfl
    refine ⟨rfl, ⟨rfl, rfl, rfl, ?_, ?_⟩, ?_, .inr ⟨g, cap, _, rfl, hg, hrow, hnc, hcm, ?_, ?_⟩⟩
    · simp [sortWorldK, grow, putRowK, putRow, mapBlock, Sort.ahead]
    · intro k hk hkg
      have hne : ¬ g = k := fun e => hkg (by subst e; rfl)
      unfold sortWorldK putRowK putRow
      rw [heap_grow_old _ _ (by simp [mapBlock, Sort.ahead]; exact hk)]
      simp only [mapBlock, Sort.ahead, Array.getElem?_modify, if_neg hne]
    · rw [cellsP_len, hsl]
    · simp [putCells, hcs]
    · apply List.ext_getElem?
      intro i
      rw [List.getElem?_take]
      by_cases hi : i < ps.length * 2
      · rw [if_pos hi]
        have h2 : (cellsP (sortP ps)).toArray[i]! = ((cellsP (sortP ps))[i]?).get! := by
          simp [getElem!_def]
          cases (cellsP (sortP ps))[i]? <;> rfl
        have h4 : i < (cellsP (sortP ps)).length := by rw [cellsP_len, hsl]; exact hi
        have h5 : i < cur.size := by omega
        simp only [putCells, Array.getElem?_toList, Array.getElem?_mapIdx, Nat.zero_le, Nat.zero_add, Nat.sub_zero, true_and, List.size_toArray, h4, if_true, id]
        rw [Array.getElem?_eq_getElem h5]
        simp [h4]
      · rw [if_neg hi, List.getElem?_eq_none (by rw [cellsP_len, hsl]; omega)]
end
theorem Sort_call {id : Nat} {st : St} {K : SV → St → Prop} {n : Nat} {xs : List Value} {ps : List Pt} (hid : st.own id = some (.row 23 2 n xs)) (hn : n = ps.length) (hx : xs = cellsP ps) (hsz : ps.length < 4611686018427387904)
    (hK : K (.v (.tuple #[])) { st with ow := (id, some (.row 23 2 ps.length (cellsP (sortP ps)))) :: st.ow }) :
    VCall Tryz.prog 60 [.row id, .clo 61 [] []] st K := by
  subst hn; subst hx
  refine VCall.set (enters_of Tryz.func60 (by kernel_rfl) rfl) hid (fun y hy => oneP hy) (fun n₀ W v ρ hv hs => ?_) hK
  have := sort_exact hs hsz
  subst hv
  exact this
end Go.Proofs.YtlppfikkgcfaoaaGreat

/- The plain law of sorting and of striking neighbours that are alike. -/
namespace Go.Proofs.YtlppfikkgcfaoaaGreat
open Go Go.V Go.RowKit
def keepB (ps : List Pt) (i : Nat) : Bool := i == 0 || gp ps i != gp ps (i - 1)
def comp (ps : List Pt) (k : Nat) : List Pt := ((List.range k).filter (keepB ps)).map (gp ps)
/-- Neighbours that are alike are struck. -/
def compactP (ps : List Pt) : List Pt := comp ps ps.length
theorem comp_succ (ps : List Pt) (k : Nat) : comp ps (k + 1) = if keepB ps k = true then comp ps k ++ [gp ps k] else comp ps k := by
  unfold comp
  rw [List.range_succ, List.filter_append]
  by_cases h : keepB ps k = true
  · simp [h]
  · simp [h]
theorem comp_len (ps : List Pt) : ∀ k, (comp ps k).length ≤ k
  | 0 => by simp [comp]
  | k + 1 => by
    have := comp_len ps k
    rw [comp_succ]
    split
    · simp; omega
    · omega
theorem comp_le (ps : List Pt) {j : Nat} : ∀ {k}, j ≤ k → (comp ps k).length + j ≤ (comp ps j).length + k
  | 0, h => by have : j = 0 := by omega
               subst this; omega
  | k + 1, h => by
    by_cases e : j = k + 1
    · subst e; omega
    · have := comp_le ps (j := j) (k := k) (by omega)
      rw [comp_succ]
      split
      · simp; omega
      · omega
theorem comp_all (ps : List Pt) : ∀ k, k ≤ ps.length → (∀ j, j < k → keepB ps j = true) → comp ps k = ps.take k
  | 0, _, _ => by simp [comp]
  | k + 1, hk, h => by
    rw [comp_succ, if_pos (h k (by omega)), comp_all ps k (by omega) (fun j hj => h j (by omega))]
    have : gp ps k = ps[k] := by simp [gp, List.getD_eq_getElem?_getD, List.getElem?_eq_getElem (show k < ps.length by omega)]
    rw [this, List.take_append_getElem]
/-- The row in the middle of it: what is kept, and what lay behind. -/
def midP (ps : List Pt) (j : Nat) : List Pt := comp ps j ++ ps.drop (comp ps j).length
theorem midP_len (ps : List Pt) {j : Nat} (h : j ≤ ps.length) : (midP ps j).length = ps.length := by
  have := comp_len ps j
  unfold midP; simp; omega
theorem midP_get (ps : List Pt) {j i : Nat} (h : (comp ps j).length ≤ i) : gp (midP ps j) i = gp ps i := by
  unfold gp midP
  simp only [List.getD_eq_getElem?_getD]
  rw [List.getElem?_append_right h, List.getElem?_drop]
  congr 2; omega
theorem midP_set (ps : List Pt) {j : Nat} (hj : j < ps.length) (hk : keepB ps j = true) : (midP ps j).set (comp ps j).length (gp ps j) = midP ps (j + 1) := by
  have := comp_len ps j
  unfold midP
  rw [comp_succ, if_pos hk, List.set_append_right _ _ (Nat.le_refl _), Nat.sub_self]
  have hlt : (comp ps j).length < ps.length := by omega
  rw [List.drop_eq_getElem_cons hlt, List.set_cons_zero]
  simp
theorem midP_skip (ps : List Pt) {j : Nat} (hk : keepB ps j = false) : midP ps j = midP ps (j + 1) := by
  unfold midP
  rw [comp_succ, if_neg (by rw [hk]; exact Bool.false_ne_true)]
theorem cellsP_put : ∀ (ys : List Pt) (i : Nat) (p : Pt), i < ys.length → rput (cellsP ys) (i * 2) [.int .i64 p.1, .int .i64 p.2] = cellsP (ys.set i p)
  | y :: ys, 0, p, _ => by simp [rput, cellsP]
  | y :: ys, i + 1, p, h => by
    have ih := cellsP_put ys i p (by simpa using h)
    have e : (i + 1) * 2 = i * 2 + 1 + 1 := by omega
    simp only [rput, cellsP, List.flatMap_cons, List.set_cons_succ, e, List.cons_append, List.nil_append, List.take_succ_cons, List.length_cons, List.length_nil] at ih ⊢
    rw [show i * 2 + 1 + 1 + (0 + 1 + 1) = i * 2 + (0 + 1 + 1) + 1 + 1 by omega, List.drop_succ_cons, List.drop_succ_cons, ih]
theorem cellsP_take (ys : List Pt) (k : Nat) : (cellsP ys).take (k * 2) = cellsP (ys.take k) := by
  induction ys generalizing k with
  | nil => simp [cellsP]
  | cons y ys ih =>
    cases k with
    | zero => simp [cellsP]
    | succ k =>
      have e : (k + 1) * 2 = k * 2 + 1 + 1 := by omega
      simp only [cellsP, List.flatMap_cons, List.take_succ_cons, e, List.cons_append, List.nil_append] at ih ⊢
      rw [ih]
theorem rput_take_off {xs ys : List Value} {off : Nat} (h : off ≤ xs.length) : (rput xs off ys).take off = xs.take off := by
  unfold rput
  rw [List.append_assoc, List.take_append_of_le_length (by simp; omega), List.take_take, Nat.min_self]
theorem compactP_short {ps : List Pt} (h : ps.length < 2) : compactP ps = ps := by
  match ps with
  | [] => rfl
  | [x] => rfl
theorem rowP_get (ys : List Pt) {i : Nat} (hi : i < ys.length) : ∀ j v, ([.int .i64 (gp ys i).1, .int .i64 (gp ys i).2] : List Value)[j]? = some v → (cellsP ys)[i * 2 + j]? = some v := by
  intro j v hv
  obtain ⟨g1, g2⟩ := cellsP_get ys i hi
  match j with
  | 0 => simp at hv; subst hv; rw [show i * 2 + 0 = 2 * i by omega]; exact g1
  | 1 => simp at hv; subst hv; rw [show i * 2 + 1 = 2 * i + 1 by omega]; exact g2
  | j + 2 => simp at hv
end Go.Proofs.YtlppfikkgcfaoaaGreat

/- slices.Compact and slices.Clone, walked where they are called. -/
namespace Go.Proofs.YtlppfikkgcfaoaaGreat
open Go Go.V Go.RowKit
theorem cellsP_length (ps : List Pt) : (cellsP ps).length = ps.length * 2 := cellsP_len ps
set_option maxHeartbeats 1000000 in
theorem Compact_call {n nt : Nat} {xs : List Value} {ps : List Pt} {M : Mem} {G : Gh} {K : SV → St → Prop} (hn : n = ps.length) (hx : xs = cellsP ps) (hsz : ps.length < 4611686018427387904)
    (hK : K (.row 0) ⟨[], [(0, some (.row 23 2 (compactP ps).length (cellsP (compactP ps))))], 1, M, nt, G⟩) :
    VCall Tryz.prog 63 [.row 0] ⟨[], [(0, some (.row 23 2 n xs))], 1, M, nt, G⟩ K := by
  subst hn; subst hx
  refine VCall.post ?_
  refine VCall.inline cxOK Tryz.func63 rfl rfl rfl [] [] trivial trivial ?_
  intro val f0
  repeat (first | refine VIf.tt ?_ | refine VIf.ff ?_)
  refine VIf.mk (fun h => ?_) (fun h => ?_)
  · have h := lt_of_dec h
    repeat (first | refine VIf.tt ?_ | refine VIf.ff ?_)
    refine VFact.mk rfl ?_
    repeat (first | refine VIf.tt ?_ | refine VIf.ff ?_)
    refine VFact.mk (fun _ => rfl) ?_
    have e : compactP ps = ps := compactP_short (by omega)
    exact ⟨_, ⟨[], [(0, some (.row 23 2 (compactP ps).length (cellsP (compactP ps))))], 1, M, nt, G⟩, ⟨⟨fun _ => 0, rfl, rfl, trivial, ⟨⟨rfl, rfl, rfl, by rw [e], by rw [e]⟩, trivial⟩, injOK_one _ _ _⟩, rfl, rfl, rfl⟩, hK⟩
  have h := ge_of_dec h
  repeat (first | refine VIf.tt ?_ | refine VIf.ff ?_)
  refine VCode.loopG cxOK (fun m => m = fun _ => none) rfl Nat (fun k => ⟨[(0, .row 0), (3, .v (.int .i64 k))], [(0, some (.row 23 2 ps.length (cellsP ps)))], 1, M, 61, ⟨fun _ => none, none, f0⟩⟩)
    (fun k => 1 ≤ k ∧ k ≤ ps.length ∧ ∀ j, j < k → keepB ps j = true) (fun k => ps.length - k) 1 ⟨Nat.le_refl _, Nat.le_of_succ_le h, fun j (hj : j < 1) => (Nat.lt_one_iff.1 hj).symm ▸ rfl⟩ (Wk.mk' id (by repeat' constructor) (by repeat' constructor) (injOK_id _) rfl rfl rfl) ?_
  rintro k ⟨hk1, hk2, hk3⟩ m rfl
  repeat (first | refine VIf.tt ?_ | refine VIf.ff ?_)
  refine VIf.mk (fun hlt => ?_) (fun hge => ?_)
  · have hlt := lt_of_dec hlt
    repeat (first | refine VIf.tt ?_ | refine VIf.ff ?_)
    refine VDraw.go (by kernel_rfl) ?_
    repeat (first | refine VIf.tt ?_ | refine VIf.ff ?_)
    refine VIdxR.mk k rfl hlt ?_
    repeat (first | refine VIf.tt ?_ | refine VIf.ff ?_)
    refine VCells.mk [.int .i64 (gp ps k).1, .int .i64 (gp ps k).2] rfl (rowP_get ps hlt) ?_
    repeat (first | refine VIf.tt ?_ | refine VIf.ff ?_)
    refine VArith.ok (by first | omega | (simp only; omega)) (by first | omega | (simp only; omega)) ?_
    repeat (first | refine VIf.tt ?_ | refine VIf.ff ?_)
    refine VIdxR.mk (k - 1) (by omega) (by omega) ?_
    repeat (first | refine VIf.tt ?_ | refine VIf.ff ?_)
    refine VCells.mk [.int .i64 (gp ps (k - 1)).1, .int .i64 (gp ps (k - 1)).2] rfl (rowP_get ps (by omega)) ?_
    repeat (first | refine VIf.tt ?_ | refine VIf.ff ?_)
    refine VIf.mk (fun hd => ?_) (fun hd => ?_)
    · -- alike
      have hkk : keepB ps k = false := by
        simp only [eqRes, Bool.and_eq_true, beq_iff_eq] at hd
        simp only [keepB, Bool.or_eq_false_iff, beq_eq_false_iff_ne, bne_eq_false_iff_eq]
        exact ⟨by omega, Prod.ext hd.1 hd.2⟩
      have hm : midP ps (k + 1) = ps := by
        rw [← midP_skip ps hkk]
        unfold midP
        rw [comp_all ps k hk2 hk3, List.length_take, Nat.min_eq_left hk2, List.take_append_drop]
      have hc : (comp ps (k + 1)).length = k := by
        rw [comp_succ, if_neg (by rw [hkk]; exact Bool.false_ne_true), comp_all ps k hk2 hk3, List.length_take, Nat.min_eq_left hk2]
      repeat (first | refine VIf.tt ?_ | refine VIf.ff ?_)
      refine VFact.mk (by omega) ?_
      repeat (first | refine VIf.tt ?_ | refine VIf.ff ?_)
      refine VBnd.mk k rfl hk2 ?_
      repeat (first | refine VIf.tt ?_ | refine VIf.ff ?_)
      refine VFact.mk hlt ?_
      repeat (first | refine VIf.tt ?_ | refine VIf.ff ?_)
      refine VCode.loopG cxOK (fun m => m = fun _ => none) rfl (Nat × Nat × List Value) (fun (⟨kk, k2, ys⟩ : Nat × Nat × List Value) => ⟨[(0, .row 0), (3, .v (.int .i64 kk)), (4, .row 1), (5, .v (.int .i64 k2))], [(0, some (.row 23 2 ps.length ys)), (1, some (.vw 2 0 k (ps.length - k)))], 2, M, 61, ⟨fun _ => none, none, f0⟩⟩)
        (fun (⟨kk, k2, ys⟩ : Nat × Nat × List Value) => 1 ≤ k2 ∧ k + k2 ≤ ps.length ∧ kk = (comp ps (k + k2)).length ∧ ys = cellsP (midP ps (k + k2)) ∧ kk + 1 ≤ k + k2) (fun (⟨_, k2, _⟩ : Nat × Nat × List Value) => ps.length - k2) (k, 1, cellsP ps) ⟨Nat.le_refl _, hlt, hc.symm, by rw [hm], Nat.le_refl _⟩ ?_ ?_
      · refine Wk.mk' (fun i => i) (by repeat' constructor) (by repeat' constructor) (injOK_id _) rfl rfl rfl
      rintro ⟨kk, k2, ys⟩ ⟨h1, h2, h3, h4, h5⟩ m rfl
      subst h4
      have hml := midP_len ps (j := k + k2) h2
      repeat (first | refine VIf.tt ?_ | refine VIf.ff ?_)
      refine VIf.mk (fun hl2 => ?_) (fun hg2 => ?_)
      · have hl2 := lt_of_dec hl2
        have hj : k + k2 < ps.length := by omega
        repeat (first | refine VIf.tt ?_ | refine VIf.ff ?_)
        refine VDraw.go (by kernel_rfl) ?_
        repeat (first | refine VIf.tt ?_ | refine VIf.ff ?_)
        refine VIdxR.mk k2 rfl hl2 ?_
        repeat (first | refine VIf.tt ?_ | refine VIf.ff ?_)
        refine VCells.mk [.int .i64 (gp ps (k + k2)).1, .int .i64 (gp ps (k + k2)).2] rfl ?_ ?_
        · rw [← midP_get ps (j := k + k2) (i := k + k2) (by omega)]
          exact rowP_get _ (by omega)
        repeat (first | refine VIf.tt ?_ | refine VIf.ff ?_)
        refine VArith.ok (by first | omega | (simp only; omega)) (by first | omega | (simp only; omega)) ?_
        repeat (first | refine VIf.tt ?_ | refine VIf.ff ?_)
        refine VIdxR.mk (k2 - 1) (by omega) (by omega) ?_
        repeat (first | refine VIf.tt ?_ | refine VIf.ff ?_)
        refine VCells.mk [.int .i64 (gp ps (k + (k2 - 1))).1, .int .i64 (gp ps (k + (k2 - 1))).2] rfl ?_ ?_
        · rw [← midP_get ps (j := k + k2) (i := k + (k2 - 1)) (by omega)]
          exact rowP_get _ (by omega)
        repeat (first | refine VIf.tt ?_ | refine VIf.ff ?_)
        refine VIf.mk (fun hd => ?_) (fun hd => ?_)
        · have hkj : keepB ps (k + k2) = true := by
            simp only [eqRes, Bool.not_eq_true', Bool.and_eq_false_iff, beq_eq_false_iff_ne] at hd
            simp only [keepB, Bool.or_eq_true, beq_iff_eq, bne_iff_ne]
            refine .inr fun e => ?_
            rw [show k + k2 - 1 = k + (k2 - 1) by omega] at e
            rw [e] at hd
            simp at hd
          repeat (first | refine VIf.tt ?_ | refine VIf.ff ?_)
          refine VIdxR.mk k2 rfl hl2 ?_
          repeat (first | refine VIf.tt ?_ | refine VIf.ff ?_)
          refine VCells.mk [.int .i64 (gp ps (k + k2)).1, .int .i64 (gp ps (k + k2)).2] rfl ?_ ?_
          · rw [← midP_get ps (j := k + k2) (i := k + k2) (by omega)]
            exact rowP_get _ (by omega)
          repeat (first | refine VIf.tt ?_ | refine VIf.ff ?_)
          refine VIdxR.mk kk rfl (by omega) ?_
          have hfit : kk * 2 + 2 ≤ (cellsP (midP ps (k + k2))).length := by rw [cellsP_length, hml]; omega
          repeat (first | refine VIf.tt ?_ | refine VIf.ff ?_)
          refine VFact.mk hfit ?_
          repeat (first | refine VIf.tt ?_ | refine VIf.ff ?_)
          refine VArith.ok (by first | omega | (simp only; omega)) (by first | omega | (simp only; omega)) ?_
          repeat (first | refine VIf.tt ?_ | refine VIf.ff ?_)
          refine VArith.ok (by first | omega | (simp only; omega)) (by first | omega | (simp only; omega)) ?_
          refine ⟨rfl, (kk + 1, k2 + 1, rput (cellsP (midP ps (k + k2))) (kk * 2) [.int .i64 (gp ps (k + k2)).1, .int .i64 (gp ps (k + k2)).2]), ⟨by omega, by omega, ?_, ?_, by omega⟩, ?_, (Wk.mk' id (by repeat' constructor) (by repeat' constructor) (injOK_id _) rfl rfl rfl)⟩
          · rw [show k + (k2 + 1) = k + k2 + 1 by omega, comp_succ, if_pos hkj]
            simp [h3]
          · rw [show k + (k2 + 1) = k + k2 + 1 by omega, ← midP_set ps hj hkj, ← h3, cellsP_put _ _ _ (by omega)]
          · show ps.length - (k2 + 1) < ps.length - k2
            omega
        · have hkj : keepB ps (k + k2) = false := by
            simp only [eqRes, Bool.not_eq_false', Bool.and_eq_true, beq_iff_eq] at hd
            simp only [keepB, Bool.or_eq_false_iff, beq_eq_false_iff_ne, bne_eq_false_iff_eq]
            rw [show k + k2 - 1 = k + (k2 - 1) by omega]
            exact ⟨by omega, Prod.ext hd.1 hd.2⟩
          repeat (first | refine VIf.tt ?_ | refine VIf.ff ?_)
          refine VArith.ok (by first | omega | (simp only; omega)) (by first | omega | (simp only; omega)) ?_
          refine ⟨rfl, (kk, k2 + 1, cellsP (midP ps (k + k2))), ⟨by omega, by omega, ?_, ?_, by omega⟩, ?_, (Wk.mk' id (by repeat' constructor) (by repeat' constructor) (injOK_id _) rfl rfl rfl)⟩
          · rw [show k + (k2 + 1) = k + k2 + 1 by omega, comp_succ, if_neg (by rw [hkj]; exact Bool.false_ne_true)]
            exact h3
          · rw [show k + (k2 + 1) = k + k2 + 1 by omega, ← midP_skip ps hkj]
          · show ps.length - (k2 + 1) < ps.length - k2
            omega
      · have : k + k2 = ps.length := by have := ge_of_dec hg2; omega
        rw [this] at h3 h5 hml ⊢
        have hkn : kk < ps.length := by omega
        repeat (first | refine VIf.tt ?_ | refine VIf.ff ?_)
        refine VFact.mk (by omega) ?_
        repeat (first | refine VIf.tt ?_ | refine VIf.ff ?_)
        refine VBnd.mk kk rfl (by omega) ?_
        repeat (first | refine VIf.tt ?_ | refine VIf.ff ?_)
        refine VFact.mk hkn ?_
        repeat (first | refine VIf.tt ?_ | refine VIf.ff ?_)
        refine VFact.mk ⟨by omega, by rw [cellsP_length, hml]; omega⟩ ?_
        repeat (first | refine VIf.tt ?_ | refine VIf.ff ?_)
        refine VBnd.mk kk rfl (by omega) ?_
        repeat (first | refine VIf.tt ?_ | refine VIf.ff ?_)
        refine VFact.mk rfl ?_
        repeat (first | refine VIf.tt ?_ | refine VIf.ff ?_)
        refine VFact.mk (fun _ => rfl) ?_
        refine ⟨_, ⟨[], [(0, some (.row 23 2 (compactP ps).length (cellsP (compactP ps))))], 1, M, nt, G⟩, ⟨⟨fun _ => 3, rfl, rfl, trivial, ⟨⟨rfl, rfl, rfl, ?_, ?_⟩, trivial⟩, injOK_one _ _ _⟩, rfl, rfl, rfl⟩, hK⟩
        · exact h3.symm
        · rw [rput_take_off (by rw [cellsP_length, hml]; omega), cellsP_take, h3]
          unfold midP
          rw [List.take_left]
          rfl
    · have hkk : keepB ps k = true := by
        simp only [eqRes, Bool.and_eq_false_iff, beq_eq_false_iff_ne] at hd
        simp only [keepB, Bool.or_eq_true, beq_iff_eq, bne_iff_ne]
        refine .inr fun e => ?_
        rw [e] at hd
        simp at hd
      repeat (first | refine VIf.tt ?_ | refine VIf.ff ?_)
      refine VArith.ok (by first | omega | (simp only; omega)) (by first | omega | (simp only; omega)) ?_
      refine ⟨rfl, k + 1, ⟨by omega, by omega, fun j hj => ?_⟩, (by first | omega | (simp only; omega)), (Wk.mk' id (by repeat' constructor) (by repeat' constructor) (injOK_id _) rfl rfl rfl)⟩
      by_cases e : j = k
      · subst e; exact hkk
      · exact hk3 j (by omega)
  · have : k = ps.length := by have := ge_of_dec hge; omega
    subst this
    repeat (first | refine VIf.tt ?_ | refine VIf.ff ?_)
    refine VFact.mk rfl ?_
    repeat (first | refine VIf.tt ?_ | refine VIf.ff ?_)
    refine VFact.mk (fun _ => rfl) ?_
    have e : compactP ps = ps := by
      unfold compactP
      rw [comp_all ps _ (Nat.le_refl _) hk3, List.take_length]
    exact ⟨_, ⟨[], [(0, some (.row 23 2 (compactP ps).length (cellsP (compactP ps))))], 1, M, nt, G⟩, ⟨⟨fun _ => 0, rfl, rfl, trivial, ⟨⟨rfl, rfl, rfl, by rw [e], by rw [e]⟩, trivial⟩, injOK_one _ _ _⟩, rfl, rfl, rfl⟩, hK⟩
end Go.Proofs.YtlppfikkgcfaoaaGreat

/- Plain geometry: the sides of a hull; the chain of corners. -/
namespace Go.Proofs.YtlppfikkgcfaoaaGreat
open Go
/-- Less, by X, then by Y. -/
def lexLt (a b : Pt) : Prop := a.1 < b.1 ∨ a.1 = b.1 ∧ a.2 < b.2
def lexLe (a b : Pt) : Prop := a.1 < b.1 ∨ a.1 = b.1 ∧ a.2 ≤ b.2
theorem lexLt_trans {a b c : Pt} (h : lexLt a b) (k : lexLt b c) : lexLt a c := by unfold lexLt at *; omega
theorem lexLt_irrefl (a : Pt) : ¬ lexLt a a := by unfold lexLt; omega
theorem lexLe_of_lt {a b : Pt} (h : lexLt a b) : lexLe a b := by unfold lexLt at h; unfold lexLe; omega
theorem lexLe_refl (a : Pt) : lexLe a a := by unfold lexLe; omega
theorem lexLe_cases {a b : Pt} (h : lexLe a b) : lexLt a b ∨ a = b := by
  unfold lexLe at h; unfold lexLt
  rcases h with h | ⟨h1, h2⟩
  · exact .inl (.inl h)
  · by_cases h3 : a.2 = b.2
    · exact .inr (Prod.ext h1 h3)
    · exact .inl (.inr ⟨h1, by omega⟩)
theorem lexLe_antisymm {a b : Pt} (h : lexLe a b) (k : lexLe b a) : a = b := by
  unfold lexLe at *
  exact Prod.ext (by omega) (by omega)
theorem lex_total (a b : Pt) : lexLt a b ∨ a = b ∨ lexLt b a := by
  unfold lexLt
  by_cases h : a.1 = b.1
  · by_cases h2 : a.2 = b.2
    · exact .inr (.inl (Prod.ext h h2))
    · omega
  · omega
theorem lex_not {a b : Pt} (h : ¬ lexLt a b) : lexLe b a := by unfold lexLt at h; unfold lexLe; omega
theorem lexLt_not {a b : Pt} (h : lexLt a b) : ¬ lexLe b a := by unfold lexLt at h; unfold lexLe; omega

/-! ### Vectors -/
def cr (u v : Pt) : Int := u.1 * v.2 - u.2 * v.1
def dv (a b : Pt) : Pt := (b.1 - a.1, b.2 - a.2)
def lp (u : Pt) : Prop := 0 < u.1 ∨ u.1 = 0 ∧ 0 < u.2
theorem lp_dv {a b : Pt} : lp (dv a b) ↔ lexLt a b := by unfold lp dv lexLt; simp only; omega
theorem crossP_cr (a b c : Pt) : crossP a b c = cr (dv a b) (dv a c) := by unfold crossP cross cr dv; rfl
theorem crossP_cr' (a b c : Pt) : crossP a b c = cr (dv a b) (dv b c) := by unfold crossP cross cr dv; grind
theorem cr_id (u v w : Pt) : v.1 * cr u w = u.1 * cr v w + w.1 * cr u v := by unfold cr; grind
theorem cr_anti (u v : Pt) : cr u v = - cr v u := by unfold cr; grind
theorem cr_lt {u v w : Pt} (hu : lp u) (hv : lp v) (hw : lp w) (h1 : 0 ≤ cr u v) (h2 : 0 < cr v w) : 0 < cr u w := by
  have hid := cr_id u v w
  rcases hv with hv | ⟨hv, hv2⟩
  · rcases hu with hu | ⟨hu, hu2⟩
    · have g1 := Int.mul_pos hu h2
      have g2 : 0 ≤ w.1 * cr u v := Int.mul_nonneg (by unfold lp at hw; omega) h1
      exact Int.not_le.1 fun h => by
        have := Int.mul_nonneg (Int.le_of_lt hv) (show 0 ≤ - cr u w by omega)
        rw [Int.mul_neg] at this
        omega
    · exfalso
      unfold cr at h1
      rw [hu] at h1
      have := Int.mul_pos hu2 hv
      omega
  · exfalso
    unfold cr at h2
    rw [hv] at h2
    have hw1 : 0 ≤ w.1 := by unfold lp at hw; omega
    have := Int.mul_nonneg (Int.le_of_lt hv2) hw1
    omega
theorem cr_le {u v w : Pt} (hu : lp u) (hv : lp v) (hw : lp w) (h1 : 0 ≤ cr u v) (h2 : 0 ≤ cr v w) : 0 ≤ cr u w := by
  have hid := cr_id u v w
  have hu1 : 0 ≤ u.1 := by unfold lp at hu; omega
  have hw1 : 0 ≤ w.1 := by unfold lp at hw; omega
  rcases hv with hv | ⟨hv, hv2⟩
  · have g1 := Int.mul_nonneg hu1 h2
    have g2 := Int.mul_nonneg hw1 h1
    refine pos_of_mul hv ?_
    omega
  · unfold cr at h1 h2 ⊢
    rw [hv] at h1 h2
    have hw0 : w.1 = 0 := by
      rcases Int.lt_or_eq_of_le hw1 with h | h
      · have := Int.mul_pos hv2 h
        omega
      · exact h.symm
    have hw2 : 0 < w.2 := by unfold lp at hw; omega
    rw [hw0]
    have := Int.mul_nonneg hu1 (Int.le_of_lt hw2)
    omega

/-! ### The sides of a hull -/
/-- a to b is a side of the hull of S: all of S lies on its left, or on it. -/
def E (S : List Pt) (a b : Pt) : Prop := a ∈ S ∧ b ∈ S ∧ a ≠ b ∧ ∀ y ∈ S, 0 < crossP a b y ∨ crossP a b y = 0 ∧ betwB a b y = true
instance (S : List Pt) (a b : Pt) : Decidable (E S a b) := by unfold E; infer_instance
theorem E_next {S : List Pt} {a b b' : Pt} (h : E S a b) (k : E S a b') : b = b' := by
  obtain ⟨_, hb, _, h4⟩ := h
  obtain ⟨_, hb', _, k4⟩ := k
  have e := crossP_swap a b b'
  have h5 := h4 b' hb'
  have k5 := k4 b hb
  simp only [betwB, decide_eq_true_eq] at h5 k5
  exact Prod.ext (by omega) (by omega)
theorem E_prev {S : List Pt} {a a' b : Pt} (h : E S a b) (k : E S a' b) : a = a' := by
  obtain ⟨ha, _, _, h4⟩ := h
  obtain ⟨ha', _, _, k4⟩ := k
  have e : crossP a b a' = - crossP a' b a := by unfold crossP cross; grind
  have h5 := h4 a' ha'
  have k5 := k4 a ha
  simp only [betwB, decide_eq_true_eq] at h5 k5
  exact Prod.ext (by omega) (by omega)
theorem E_sub {S T : List Pt} {a b : Pt} (h : E S a b) (hT : ∀ x ∈ T, x ∈ S) (ha : a ∈ T) (hb : b ∈ T) : E T a b := ⟨ha, hb, h.2.2.1, fun y hy => h.2.2.2 y (hT y hy)⟩

/-- A side that goes up. -/
def Edge (S : List Pt) (a b : Pt) : Prop := a ∈ S ∧ b ∈ S ∧ lexLt a b ∧ ∀ y ∈ S, 0 < crossP a b y ∨ crossP a b y = 0 ∧ lexLe a y ∧ lexLe y b
theorem betw_of_lex {a b y : Pt} (h : lexLt a b) (hz : crossP a b y = 0) (h1 : lexLe a y) (h2 : lexLe y b) : betwB a b y = true := by
  unfold crossP cross at hz
  simp only [betwB, decide_eq_true_eq]
  unfold lexLt at h; unfold lexLe at h1 h2
  rcases h with h | ⟨h, h'⟩
  · have d1 : 0 ≤ y.1 - a.1 := by omega
    have d2 : 0 ≤ b.1 - y.1 := by omega
    have d3 : 0 < b.1 - a.1 := by omega
    have key : ∀ z : Int, 0 ≤ (b.1 - a.1) * z → 0 ≤ z := fun z hz => pos_of_mul d3 hz
    by_cases hs : a.2 ≤ b.2
    · have e1 := key (y.2 - a.2) (by
        have := Int.mul_nonneg (show 0 ≤ b.2 - a.2 by omega) d1
        omega)
      have e2 := key (b.2 - y.2) (by
        have := Int.mul_nonneg (show 0 ≤ b.2 - a.2 by omega) d2
        have e : (b.1 - a.1) * (b.2 - y.2) = (b.2 - a.2) * (b.1 - y.1) := by
          have : (b.1 - a.1) * (b.2 - y.2) = (b.1 - a.1) * (b.2 - a.2) - (b.1 - a.1) * (y.2 - a.2) := by grind
          rw [this]
          have : (b.2 - a.2) * (b.1 - y.1) = (b.1 - a.1) * (b.2 - a.2) - (b.2 - a.2) * (y.1 - a.1) := by grind
          rw [this]; omega
        rw [e]; exact this)
      omega
    · have e1 := key (a.2 - y.2) (by
        have := Int.mul_nonneg (show 0 ≤ a.2 - b.2 by omega) d1
        have e : (b.1 - a.1) * (a.2 - y.2) = - ((b.1 - a.1) * (y.2 - a.2)) := by grind
        have e' : (a.2 - b.2) * (y.1 - a.1) = - ((b.2 - a.2) * (y.1 - a.1)) := by grind
        omega)
      have e2 := key (y.2 - b.2) (by
        have := Int.mul_nonneg (show 0 ≤ a.2 - b.2 by omega) d2
        have e : (b.1 - a.1) * (y.2 - b.2) = (a.2 - b.2) * (b.1 - y.1) := by
          have : (b.1 - a.1) * (y.2 - b.2) = (b.1 - a.1) * (y.2 - a.2) - (b.1 - a.1) * (b.2 - a.2) := by grind
          rw [this]
          have : (a.2 - b.2) * (b.1 - y.1) = (b.2 - a.2) * (y.1 - a.1) - (b.1 - a.1) * (b.2 - a.2) := by grind
          rw [this]; omega
        rw [e]; exact this)
      omega
  · omega
theorem Edge.e {S : List Pt} {a b : Pt} (h : Edge S a b) : E S a b := by
  obtain ⟨h1, h2, h3, h4⟩ := h
  refine ⟨h1, h2, fun e => lexLt_irrefl _ (e ▸ h3), fun y hy => ?_⟩
  rcases h4 y hy with h | ⟨h, k1, k2⟩
  · exact .inl h
  · exact .inr ⟨h, betw_of_lex h3 h k1 k2⟩

/-! ### The chain -/
/-- The corners at which a new one does not turn left are dropped; the last one stands first. -/
def popR : List Pt → Pt → List Pt
  | b :: a :: r, x => if crossP a b x ≤ 0 then popR (a :: r) x else b :: a :: r
  | l, _ => l
def pushR (l : List Pt) (x : Pt) : List Pt := x :: popR l x
theorem popR_short {l : List Pt} (x : Pt) (h : l.length ≤ 1) : popR l x = l := by
  match l, h with
  | [], _ => rfl
  | [a], _ => rfl
theorem popR_len : ∀ (l : List Pt) (x : Pt), (popR l x).length ≤ l.length
  | [], _ => by simp [popR]
  | [a], _ => by simp [popR]
  | b :: a :: r, x => by
    simp only [popR]
    split
    · have := popR_len (a :: r) x
      simp only [List.length_cons] at this ⊢
      omega
    · exact Nat.le_refl _
theorem popR_mem : ∀ (l : List Pt) (x y : Pt), y ∈ popR l x → y ∈ l
  | [], _, _, h => by simp [popR] at h
  | [a], _, _, h => by simpa [popR] using h
  | b :: a :: r, x, y, h => by
    simp only [popR] at h
    split at h
    · exact List.mem_cons_of_mem _ (popR_mem _ _ _ h)
    · exact h
/-- All neighbours on a reversed chain are sides. -/
def Lnk (S : List Pt) : List Pt → Prop
  | b :: a :: r => Edge S a b ∧ Lnk S (a :: r)
  | _ => True
theorem Lnk.tail {S : List Pt} {b : Pt} {l : List Pt} (h : Lnk S (b :: l)) : Lnk S l := by
  cases l with
  | nil => trivial
  | cons a r => exact h.2
structure ChI (S C : List Pt) : Prop where
  ne : C ≠ []
  top : ∀ c, C.head? = some c → c ∈ S ∧ ∀ y ∈ S, lexLe y c
  bot : ∀ c, C.getLast? = some c → c ∈ S ∧ ∀ y ∈ S, lexLe c y
  lnk : Lnk S C
/-- What is dropped, and what is left. -/
theorem pop_spec {S : List Pt} {x : Pt} (hx : ∀ y ∈ S, lexLt y x) : ∀ (C : List Pt), C ≠ [] → Lnk S C → (∀ c ∈ C, c ∈ S) → (∀ c, C.head? = some c → ∀ y ∈ S, lexLt c y → 0 ≤ crossP c x y) →
    popR C x ≠ [] ∧ (popR C x).getLast? = C.getLast? ∧ Lnk S (popR C x) ∧ (∀ c, (popR C x).head? = some c → c ∈ S ∧ ∀ y ∈ S, lexLt c y → 0 ≤ crossP c x y) ∧ (∀ b a r, popR C x = b :: a :: r → 0 < crossP a b x)
  | [], h, _, _, _ => absurd rfl h
  | [c], _, h2, hS, h3 => by
    simp only [popR]
    refine ⟨by simp, trivial, h2, fun c' hc => ⟨?_, h3 c' hc⟩, by simp⟩
    simp at hc; subst hc; exact hS _ (by simp)
  | b :: a :: r, _, h2, hS, h3 => by
    simp only [popR]
    split
    · rename_i hc
      have ih := pop_spec hx (a :: r) (by simp) h2.2 (fun c hc => hS c (List.mem_cons_of_mem _ hc)) (fun c hc' y hy hlt => by
        simp at hc'
        subst hc'
        obtain ⟨e1, e2, e3, e4⟩ := h2.1
        have g1 : 0 ≤ crossP a b y := by rcases e4 y hy with h | ⟨h, _⟩ <;> omega
        rw [crossP_cr] at g1 hc ⊢
        refine cr_le (v := dv a b) (lp_dv.2 (hx a e1)) (lp_dv.2 e3) (lp_dv.2 hlt) ?_ g1
        rw [cr_anti]; omega)
      refine ⟨ih.1, ?_, ih.2.2.1, ih.2.2.2.1, ih.2.2.2.2⟩
      rw [ih.2.1]; simp
    · rename_i hc
      refine ⟨by simp, rfl, h2, fun c hc' => ⟨?_, h3 c hc'⟩, fun b' a' r' he => ?_⟩
      · simp at hc'; subst hc'; exact hS _ (by simp)
      · cases he; omega
/-- A further place lies on the left of all sides that are left. -/
theorem lnk_left {S : List Pt} {x : Pt} (hx : ∀ y ∈ S, lexLt y x) : ∀ (C : List Pt), Lnk S C → (∀ b a r, C = b :: a :: r → 0 < crossP a b x) → Lnk (S ++ [x]) C
  | [], _, _ => trivial
  | [c], _, _ => trivial
  | b :: a :: r, h, hc => by
    have h1 := hc b a r rfl
    obtain ⟨e1, e2, e3, e4⟩ := h.1
    refine ⟨⟨by simp [e1], by simp [e2], e3, fun y hy => ?_⟩, lnk_left hx (a :: r) h.2 fun b' a' r' he => ?_⟩
    · rcases List.mem_append.1 hy with hy | hy
      · exact e4 y hy
      · simp at hy; subst hy; exact .inl h1
    · cases he
      obtain ⟨k1, k2, k3, k4⟩ := h.2.1
      have hb := k4 b e2
      have g1 : 0 < crossP a' a b := by
        rcases hb with hb | ⟨_, _, hb⟩
        · exact hb
        · exact absurd hb (lexLt_not e3)
      have g2 := h1
      rw [crossP_cr'] at g1 g2
      have g3 := cr_lt (lp_dv.2 k3) (lp_dv.2 e3) (lp_dv.2 (hx b e2)) (Int.le_of_lt g1) g2
      have e : crossP a' a x = cr (dv a' a) (dv a b) + cr (dv a' a) (dv b x) := by unfold crossP cross cr dv; grind
      omega
theorem Lnk_mem {S : List Pt} : ∀ {C : List Pt}, Lnk S C → (∀ c, C.head? = some c → c ∈ S) → ∀ c ∈ C, c ∈ S
  | [], _, _, c, hc => by cases hc
  | [a], _, h, c, hc => by simp at hc; subst hc; exact h _ rfl
  | b :: a :: r, h, hh, c, hc => by
    rcases List.mem_cons.1 hc with rfl | hc
    · exact hh _ rfl
    · exact Lnk_mem h.2 (fun c hc => by simp at hc; subst hc; exact h.1.1) c hc
theorem ch_push {S C : List Pt} {x : Pt} (h : ChI S C) (hx : ∀ y ∈ S, lexLt y x) : ChI (S ++ [x]) (pushR C x) := by
  have hm := Lnk_mem h.lnk (fun c hc => (h.top c hc).1)
  obtain ⟨p1, p2, p3, p4, p5⟩ := pop_spec hx C h.ne h.lnk hm (fun c hc y hy hlt => absurd ((h.top c hc).2 y hy) (lexLt_not hlt))
  have hl := lnk_left hx _ p3 p5
  unfold pushR
  refine ⟨by simp, fun c hc => ?_, fun c hc => ?_, ?_⟩
  · simp at hc; subst hc
    refine ⟨by simp, fun y hy => ?_⟩
    rcases List.mem_append.1 hy with hy | hy
    · exact lexLe_of_lt (hx y hy)
    · simp at hy; subst hy; exact lexLe_refl _
  · have hc' : C.getLast? = some c := by
      rw [← p2, ← hc]
      cases hp : popR C x with
      | nil => exact absurd hp p1
      | cons a r => simp
    obtain ⟨g1, g2⟩ := h.bot c hc'
    refine ⟨by simp [g1], fun y hy => ?_⟩
    rcases List.mem_append.1 hy with hy | hy
    · exact g2 y hy
    · simp at hy; subst hy; exact lexLe_of_lt (hx c g1)
  · cases hp : popR C x with
    | nil => exact absurd hp p1
    | cons a r =>
      rw [hp] at hl p2 p5
      obtain ⟨q1, q2⟩ := p4 a (by rw [hp]; rfl)
      refine ⟨⟨by simp [q1], by simp, hx a q1, fun y hy => ?_⟩, hl⟩
      rcases List.mem_append.1 hy with hy | hy
      · rcases lex_total y a with hlt | rfl | hgt
        · cases r with
          | nil =>
            simp at p2
            exact absurd ((h.bot a p2.symm).2 y hy) (lexLt_not hlt)
          | cons a' r' =>
            have g5 := p5 a a' r' rfl
            rw [hp] at p3
            obtain ⟨e1, e2, e3, e4⟩ := p3.1
            have g1 : 0 ≤ crossP a' a y := by rcases e4 y hy with h | ⟨h, _⟩ <;> omega
            rw [crossP_cr'] at g1 g5
            have : cr (dv a' a) (dv a y) = cr (dv y a) (dv a' a) := by unfold cr dv; grind
            rw [this] at g1
            have g3 := cr_lt (lp_dv.2 hlt) (lp_dv.2 e3) (lp_dv.2 (hx a q1)) g1 g5
            refine .inl ?_
            have : crossP a x y = cr (dv y a) (dv a x) := by unfold crossP cross cr dv; grind
            omega
        · exact .inr ⟨by unfold crossP cross; grind, lexLe_refl _, lexLe_of_lt (hx _ hy)⟩
        · have := q2 y hy hgt
          rcases Int.lt_or_eq_of_le this with h | h
          · exact .inl h
          · exact .inr ⟨h.symm, lexLe_of_lt hgt, lexLe_of_lt (hx y hy)⟩
      · simp at hy; subst hy
        exact .inr ⟨by unfold crossP cross; grind, lexLe_of_lt (hx a q1), lexLe_refl _⟩
theorem ch_fold : ∀ (rest done C : List Pt), ChI done C → (done ++ rest).Pairwise lexLt → ChI (done ++ rest) (rest.foldl pushR C)
  | [], done, C, h, _ => by simpa using h
  | x :: rest, done, C, h, hs => by
    have := ch_push h (x := x) (fun y hy => by
      rw [List.pairwise_append] at hs
      exact hs.2.2 y hy x (by simp))
    have ih := ch_fold rest (done ++ [x]) (pushR C x) this (by simpa using hs)
    simpa using ih
theorem ch_of {s : List Pt} (hne : s ≠ []) (hs : s.Pairwise lexLt) : ChI s (s.foldl pushR []) := by
  match s, hne with
  | x :: rest, _ =>
    have h0 : ChI [x] [x] := ⟨by simp, fun c hc => by simp at hc; subst hc; simp [lexLe_refl], fun c hc => by simp at hc; subst hc; simp [lexLe_refl], trivial⟩
    exact ch_fold rest [x] [x] h0 hs
end Go.Proofs.YtlppfikkgcfaoaaGreat

/- Plain geometry: the two chains together are a polygon; there is but one. -/
namespace Go.Proofs.YtlppfikkgcfaoaaGreat
open Go
def ng (p : Pt) : Pt := (-p.1, -p.2)
theorem ng_ng (p : Pt) : ng (ng p) = p := by unfold ng; simp
theorem crossP_ng (a b c : Pt) : crossP (ng a) (ng b) (ng c) = crossP a b c := by unfold crossP cross ng; grind
theorem lexLt_ng {a b : Pt} : lexLt (ng a) (ng b) ↔ lexLt b a := by unfold lexLt ng; simp only; omega
theorem lexLe_ng {a b : Pt} : lexLe (ng a) (ng b) ↔ lexLe b a := by unfold lexLe ng; simp only; omega
theorem minmax_ng (a b c : Int) : (min (-a) (-b) ≤ -c ∧ -c ≤ max (-a) (-b)) ↔ (min a b ≤ c ∧ c ≤ max a b) := by
  constructor <;> intro h <;> omega
theorem betwB_ng (a b c : Pt) : betwB (ng a) (ng b) (ng c) = betwB a b c := by
  have k := minmax_ng a.1 b.1 c.1
  have k2 := minmax_ng a.2 b.2 c.2
  rw [Bool.eq_iff_iff]
  constructor
  · intro h
    obtain ⟨h1, h2, h3, h4⟩ := of_decide_eq_true h
    exact decide_eq_true ⟨(k.1 ⟨h1, h2⟩).1, (k.1 ⟨h1, h2⟩).2, (k2.1 ⟨h3, h4⟩).1, (k2.1 ⟨h3, h4⟩).2⟩
  · intro h
    obtain ⟨h1, h2, h3, h4⟩ := of_decide_eq_true h
    exact decide_eq_true ⟨(k.2 ⟨h1, h2⟩).1, (k.2 ⟨h1, h2⟩).2, (k2.2 ⟨h3, h4⟩).1, (k2.2 ⟨h3, h4⟩).2⟩
theorem popR_ng : ∀ (l : List Pt) (x : Pt), popR (l.map ng) (ng x) = (popR l x).map ng
  | [], x => rfl
  | [a], x => rfl
  | b :: a :: r, x => by
    simp only [List.map_cons, popR, crossP_ng]
    split
    · exact popR_ng (a :: r) x
    · rfl
theorem fold_ng : ∀ (l C : List Pt), (l.map ng).foldl pushR (C.map ng) = (l.foldl pushR C).map ng
  | [], C => rfl
  | x :: l, C => by
    simp only [List.map_cons, List.foldl_cons]
    have : pushR (C.map ng) (ng x) = (pushR C x).map ng := by simp [pushR, popR_ng]
    rw [this]
    exact fold_ng l _
theorem mem_map_ng {l : List Pt} {p : Pt} : ng p ∈ l.map ng ↔ p ∈ l := by
  constructor
  · intro h
    obtain ⟨q, hq, e⟩ := List.mem_map.1 h
    have : p = q := by rw [← ng_ng p, ← e, ng_ng]
    rw [this]; exact hq
  · exact fun h => List.mem_map.2 ⟨p, h, rfl⟩
theorem E_ng {S T : List Pt} (hT : ∀ x, x ∈ T ↔ ng x ∈ S) {a b : Pt} (h : E S a b) : E T (ng a) (ng b) := by
  obtain ⟨h1, h2, h3, h4⟩ := h
  refine ⟨(hT _).2 (by rw [ng_ng]; exact h1), (hT _).2 (by rw [ng_ng]; exact h2), fun e => h3 (by rw [← ng_ng a, e, ng_ng]), fun y hy => ?_⟩
  have := h4 (ng y) ((hT y).1 hy)
  rw [← crossP_ng, ng_ng, ← betwB_ng, ng_ng] at this
  exact this

/-- All neighbours on a list are related. -/
def Lk (R : Pt → Pt → Prop) : List Pt → Prop
  | a :: b :: r => R a b ∧ Lk R (b :: r)
  | _ => True
theorem Lk_append {R : Pt → Pt → Prop} : ∀ {l r : List Pt} {m : Pt}, Lk R (l ++ [m]) → Lk R (m :: r) → Lk R (l ++ m :: r)
  | [], r, m, _, h => h
  | [a], r, m, h, k => ⟨h.1, k⟩
  | a :: b :: l, r, m, h, k => ⟨h.1, Lk_append (l := b :: l) h.2 k⟩
theorem Lk_get {R : Pt → Pt → Prop} : ∀ {l : List Pt}, Lk R l → ∀ i, i + 1 < l.length → R (gp l i) (gp l (i + 1))
  | a :: b :: r, h, 0, _ => h.1
  | a :: b :: r, h, i + 1, hi => by
    have := Lk_get (l := b :: r) h.2 i (by simpa using hi)
    simpa [gp] using this
  | [], _, i, hi => by simp at hi
  | [a], _, i, hi => by simp at hi
theorem Lk_mono {R R' : Pt → Pt → Prop} (h : ∀ a b, R a b → R' a b) : ∀ {l : List Pt}, Lk R l → Lk R' l
  | [], _ => trivial
  | [_], _ => trivial
  | _ :: _ :: _, ⟨h1, h2⟩ => ⟨h _ _ h1, Lk_mono h h2⟩
theorem Lk_snoc {R : Pt → Pt → Prop} {l : List Pt} {a b : Pt} (h : Lk R (l ++ [a])) (k : R a b) : Lk R (l ++ [a] ++ [b]) := by
  have := Lk_append (R := R) (l := l) (m := a) (r := [b]) h ⟨k, trivial⟩
  simpa using this
/-- A reversed chain, the right way round. -/
theorem Lnk_rev {S : List Pt} : ∀ {C : List Pt}, Lnk S C → Lk (Edge S) C.reverse
  | [], _ => trivial
  | [a], _ => trivial
  | b :: a :: r, h => by
    have ih := Lnk_rev (C := a :: r) h.2
    rw [List.reverse_cons, List.reverse_cons]
    rw [List.reverse_cons] at ih
    exact Lk_snoc ih h.1
theorem Lk_map {R R' : Pt → Pt → Prop} (h : ∀ a b, R a b → R' (ng a) (ng b)) : ∀ {l : List Pt}, Lk R l → Lk R' (l.map ng)
  | [], _ => trivial
  | [_], _ => trivial
  | _ :: _ :: _, ⟨h1, h2⟩ => ⟨h _ _ h1, Lk_map h (l := _ :: _) h2⟩

/-- The lower, and the upper chain, each without its last corner. -/
def lowP (s : List Pt) : List Pt := (s.foldl pushR []).tail.reverse
def highP (s : List Pt) : List Pt := (s.reverse.foldl pushR []).tail.reverse

/-- Neighbours on the lower chain go up; on the upper one down. -/
theorem low_spec {s : List Pt} (hne : s ≠ []) (hs : s.Pairwise lexLt) : ∃ mx, mx ∈ s ∧ (∀ y ∈ s, lexLe y mx) ∧ Lk (fun a b => E s a b ∧ lexLt a b) (lowP s ++ [mx]) ∧ ∃ mn r, lowP s ++ [mx] = mn :: r ∧ mn ∈ s ∧ ∀ y ∈ s, lexLe mn y := by
  have h := ch_of hne hs
  unfold lowP
  generalize s.foldl pushR [] = C at h
  match C, h with
  | [], h => exact absurd rfl h.ne
  | x :: r, h =>
    obtain ⟨t1, t2⟩ := h.top x rfl
    refine ⟨x, t1, t2, ?_, ?_⟩
    · have := Lnk_rev h.lnk
      rw [List.reverse_cons] at this
      exact Lk_mono (fun a b e => ⟨e.e, e.2.2.1⟩) this
    · have e : List.tail (x :: r) = r := rfl
      rw [e]
      have hl : (x :: r).reverse = r.reverse ++ [x] := by simp
      cases hr : (x :: r).reverse with
      | nil => simp at hr
      | cons m q =>
        refine ⟨m, q, by rw [← hl, hr], ?_⟩
        refine h.bot m ?_
        have : (x :: r) = q.reverse ++ [m] := by rw [← List.reverse_reverse (x :: r), hr]; simp
        rw [this]; simp
theorem high_spec {s : List Pt} (hne : s ≠ []) (hs : s.Pairwise lexLt) : ∃ mn, mn ∈ s ∧ (∀ y ∈ s, lexLe mn y) ∧ Lk (fun a b => E s a b ∧ lexLt b a) (highP s ++ [mn]) ∧ ∃ mx r, highP s ++ [mn] = mx :: r ∧ mx ∈ s ∧ ∀ y ∈ s, lexLe y mx := by
  have hne' : s.reverse.map ng ≠ [] := by simpa using hne
  have hs' : (s.reverse.map ng).Pairwise lexLt := by
    rw [List.pairwise_map, List.pairwise_reverse]
    exact hs.imp fun h => lexLt_ng.2 h
  obtain ⟨mx, h1, h2, h3, mn, r, h4, h5, h6⟩ := low_spec hne' hs'
  have hT : ∀ x, x ∈ s ↔ ng x ∈ s.reverse.map ng := fun x => by rw [mem_map_ng, List.mem_reverse]
  have e : lowP (s.reverse.map ng) = (highP s).map ng := by
    unfold lowP highP
    have := fold_ng s.reverse []
    rw [List.map_nil] at this
    rw [this]
    simp [List.map_tail]
  rw [e] at h3 h4
  have em : ∀ l : List Pt, (l.map ng).map ng = l := fun l => by
    rw [List.map_map]
    have : ng ∘ ng = id := funext ng_ng
    rw [this, List.map_id]
  refine ⟨ng mx, (hT _).2 (by rw [ng_ng]; exact h1), fun y hy => ?_, ?_, ng mn, r.map ng, ?_, (hT _).2 (by rw [ng_ng]; exact h5), fun y hy => ?_⟩
  · have := h2 (ng y) ((hT y).1 hy)
    rw [← ng_ng mx] at this
    exact lexLe_ng.1 this
  · have := Lk_map (R' := fun a b => E s a b ∧ lexLt b a) (fun a b h => ⟨E_ng hT h.1, lexLt_ng.2 h.2⟩) h3
    rw [List.map_append, em] at this
    exact this
  · have := congrArg (List.map ng) h4
    rw [List.map_append, em] at this
    exact this
  · have := h6 (ng y) ((hT y).1 hy)
    rw [← ng_ng mn] at this
    exact lexLe_ng.1 this

/-- The corners of p follow each other round the hull of S. -/
structure Cyc (S p : List Pt) : Prop where
  two : 2 ≤ p.length
  fst : ∀ y ∈ S, lexLe (gp p 0) y
  inj : ∀ i j, i < j → j < p.length → gp p i ≠ gp p j
  side : ∀ i, i < p.length → E S (gp p i) (gp p ((i + 1) % p.length))
theorem gp_append_left {l r : List Pt} {i : Nat} (h : i < l.length) : gp (l ++ r) i = gp l i := by
  unfold gp; simp [List.getD_eq_getElem?_getD, List.getElem?_append_left h]
theorem gp_append_right {l r : List Pt} {i : Nat} (h : l.length ≤ i) : gp (l ++ r) i = gp r (i - l.length) := by
  unfold gp; simp [List.getD_eq_getElem?_getD, List.getElem?_append_right h]
theorem gp_mem {l : List Pt} {i : Nat} (h : i < l.length) : gp l i ∈ l := by
  unfold gp; simp [List.getD_eq_getElem?_getD, List.getElem?_eq_getElem h]
theorem mem_gp {l : List Pt} {x : Pt} (h : x ∈ l) : ∃ i, i < l.length ∧ gp l i = x := by
  obtain ⟨i, hi, e⟩ := List.getElem_of_mem h
  exact ⟨i, hi, by unfold gp; simp [List.getD_eq_getElem?_getD, List.getElem?_eq_getElem hi, e]⟩
theorem Lk_lt {l : List Pt} (h : Lk lexLt l) : ∀ j i, i < j → j < l.length → lexLt (gp l i) (gp l j)
  | 0, i, hi, _ => by omega
  | j + 1, i, hi, hj => by
    have h1 := Lk_get h j hj
    by_cases e : i = j
    · subst e; exact h1
    · exact lexLt_trans (Lk_lt h j i (by omega) (by omega)) h1
theorem Lk_gt {l : List Pt} (h : Lk (fun a b => lexLt b a) l) : ∀ j i, i < j → j < l.length → lexLt (gp l j) (gp l i)
  | 0, i, hi, _ => by omega
  | j + 1, i, hi, hj => by
    have h1 := Lk_get h j hj
    by_cases e : i = j
    · subst e; exact h1
    · exact lexLt_trans h1 (Lk_gt h j i (by omega) (by omega))
theorem cyc_of {s : List Pt} (h2 : 2 ≤ s.length) (hs : s.Pairwise lexLt) : Cyc s (lowP s ++ highP s) := by
  have hne : s ≠ [] := fun e => by rw [e] at h2; simp at h2
  obtain ⟨mx, l1, l2, l3, mn, lr, l4, l5, l6⟩ := low_spec hne hs
  obtain ⟨mn', u1, u2, u3, mx', ur, u4, u5, u6⟩ := high_spec hne hs
  obtain rfl : mn = mn' := lexLe_antisymm (l6 _ u1) (u2 _ l5)
  obtain rfl : mx = mx' := lexLe_antisymm (u6 _ l1) (l2 _ u5)
  have hmm : mn ≠ mx := fun e => by
    match s, h2 with
    | a :: b :: r, _ =>
      have hab : lexLt a b := by
        rw [List.pairwise_cons] at hs
        exact hs.1 b (by simp)
      have h1 := l6 a (by simp)
      have h3 := l2 b (by simp)
      rw [e] at h1
      unfold lexLt at hab; unfold lexLe at h1 h3
      omega
  -- both chains begin with something
  obtain ⟨lt, hlt⟩ : ∃ lt, lowP s = mn :: lt := by
    cases hl : lowP s with
    | nil => rw [hl] at l4; simp at l4; exact absurd l4.1.symm hmm
    | cons a r => rw [hl] at l4; simp at l4; exact ⟨r, by rw [l4.1]⟩
  obtain ⟨ht, hht⟩ : ∃ ht, highP s = mx :: ht := by
    cases hl : highP s with
    | nil => rw [hl] at u4; simp at u4; exact absurd u4.1 hmm
    | cons a r => rw [hl] at u4; simp at u4; exact ⟨r, by rw [u4.1]⟩
  have hall : Lk (E s) (lowP s ++ highP s ++ [mn]) := by
    have e1 := Lk_mono (fun a b h => h.1) l3
    have e2 := Lk_mono (fun a b h => h.1) u3
    rw [hht] at e2 ⊢
    have := Lk_append (l := lowP s) (m := mx) (r := ht ++ [mn]) e1 (by simpa using e2)
    simpa using this
  have g0 : gp (lowP s ++ highP s) 0 = mn := by rw [hlt]; rfl
  have len : (lowP s ++ highP s).length = (lowP s).length + (highP s).length := by simp
  have n1 : 0 < (lowP s).length := by rw [hlt]; simp
  have n2 : 0 < (highP s).length := by rw [hht]; simp
  have side : ∀ i, i < (lowP s ++ highP s).length → E s (gp (lowP s ++ highP s) i) (gp (lowP s ++ highP s) ((i + 1) % (lowP s ++ highP s).length)) := by
    intro i hi
    have := Lk_get hall i (by simp at hi ⊢; omega)
    rw [gp_append_left hi] at this
    by_cases e : i + 1 < (lowP s ++ highP s).length
    · rw [gp_append_left e] at this
      rw [Nat.mod_eq_of_lt e]; exact this
    · have e' : i + 1 = (lowP s ++ highP s).length := by omega
      rw [e', gp_append_right (Nat.le_refl _), Nat.sub_self] at this
      rw [e', Nat.mod_self, g0]
      exact this
  have lows : ∀ i, i < (lowP s).length → ∃ b, E s (gp (lowP s) i) b ∧ lexLt (gp (lowP s) i) b := fun i hi => by
    have := Lk_get l3 i (by simp; omega)
    rw [gp_append_left hi] at this
    exact ⟨_, this⟩
  have highs : ∀ i, i < (highP s).length → ∃ b, E s (gp (highP s) i) b ∧ lexLt b (gp (highP s) i) := fun i hi => by
    have := Lk_get u3 i (by simp; omega)
    rw [gp_append_left hi] at this
    exact ⟨_, this⟩
  refine ⟨by omega, by rw [g0]; exact l6, fun i j hij hj e => ?_, side⟩
  by_cases hjl : j < (lowP s).length
  · rw [gp_append_left hjl, gp_append_left (by omega)] at e
    have := Lk_lt (Lk_mono (fun a b h => h.2) l3) j i hij (by simp; omega)
    rw [gp_append_left hjl, gp_append_left (show i < (lowP s).length by omega), e] at this
    exact lexLt_irrefl _ this
  · rw [gp_append_right (by omega : (lowP s).length ≤ j)] at e
    by_cases hil : i < (lowP s).length
    · rw [gp_append_left hil] at e
      obtain ⟨b, b1, b2⟩ := lows i hil
      obtain ⟨c, c1, c2⟩ := highs (j - (lowP s).length) (by omega)
      rw [← e] at c1 c2
      have := E_next b1 c1
      subst this
      exact lexLt_irrefl _ (lexLt_trans b2 c2)
    · rw [gp_append_right (by omega : (lowP s).length ≤ i)] at e
      have := Lk_gt (Lk_mono (fun a b h => h.2) u3) (j - (lowP s).length) (i - (lowP s).length) (by omega) (by simp; omega)
      rw [gp_append_left (by omega), gp_append_left (by omega), e] at this
      exact lexLt_irrefl _ this
theorem ext_gp {p q : List Pt} (hl : p.length = q.length) (h : ∀ i, i < p.length → gp p i = gp q i) : p = q := by
  refine List.ext_getElem hl fun i h1 h2 => ?_
  have := h i h1
  simpa [gp, List.getD_eq_getElem?_getD, List.getElem?_eq_getElem h1, List.getElem?_eq_getElem h2] using this
/-- There is but one. -/
theorem cyc_unique {S p q : List Pt} (hp : Cyc S p) (hq : Cyc S q) : p = q := by
  have h0 : gp p 0 = gp q 0 := by
    have a := (hp.side 0 (by have := hp.two; omega)).1
    have b := (hq.side 0 (by have := hq.two; omega)).1
    exact lexLe_antisymm (hp.fst _ b) (hq.fst _ a)
  have main : ∀ {p q : List Pt}, Cyc S p → Cyc S q → gp p 0 = gp q 0 → ∀ i, i < p.length → i < q.length → gp p i = gp q i := by
    intro p q hp hq h0 i
    induction i with
    | zero => intro _ _; exact h0
    | succ i ih =>
      intro h1 h2
      have e := ih (by omega) (by omega)
      have a := hp.side i (by omega)
      have b := hq.side i (by omega)
      rw [Nat.mod_eq_of_lt h1] at a
      rw [Nat.mod_eq_of_lt h2, ← e] at b
      exact E_next a b
  have le : ∀ {p q : List Pt}, Cyc S p → Cyc S q → gp p 0 = gp q 0 → p.length ≤ q.length := by
    intro p q hp hq h0
    refine Nat.not_lt.1 fun hlt => ?_
    have h2 := hq.two
    have e := main hp hq h0 (q.length - 1) (by omega) (by omega)
    have a := hp.side (q.length - 1) (by omega)
    have b := hq.side (q.length - 1) (by omega)
    rw [Nat.sub_add_cancel (by omega), Nat.mod_eq_of_lt hlt] at a
    rw [Nat.sub_add_cancel (by omega), Nat.mod_self, ← e, ← h0] at b
    exact hp.inj 0 q.length (by omega) hlt (E_next b a)
  have hl : p.length = q.length := Nat.le_antisymm (le hp hq h0) (le hq hp h0.symm)
  exact ext_gp hl fun i hi => main hp hq h0 i hi (by omega)
end Go.Proofs.YtlppfikkgcfaoaaGreat

/- slices.Clone and hull.chain.push, walked where they are called. -/
namespace Go.Proofs.YtlppfikkgcfaoaaGreat
open Go Go.V Go.RowKit
theorem Clone_call {nt : Nat} {v : Value} {ps : List Pt} {M : Mem} {G : Gh} {K : SV → St → Prop} (hv : Pts M v ps) (hn : 1 ≤ ps.length) (hn' : ps.length ≤ 100000)
    (hK : K (.row 0) ⟨[], [(0, some (.row 23 2 ps.length (cellsP ps)))], 1, M, nt, G⟩) :
    VCall Tryz.prog 59 [.v v] ⟨[], [], 0, M, nt, G⟩ K := by
  obtain ⟨ad, c, rfl⟩ := hv.shape
  obtain ⟨_, hm, hrd⟩ := hv.cellsOf
  obtain ⟨ad', rfl, _⟩ := hrd M (Mem.le_refl _) 0 (by omega)
  refine VCall.post ?_
  refine VCall.inline cxOK Tryz.func59 rfl rfl rfl [] [] trivial trivial ?_
  intro val f0
  repeat (first | refine VIf.tt ?_ | refine VIf.ff ?_)
  refine VSl.mk ps.length (cellsP ps) hv ?_
  repeat (first | refine VIf.tt ?_ | refine VIf.ff ?_)
  refine VFact.mk (by simp only; omega) ?_
  repeat (first | refine VIf.tt ?_ | refine VIf.ff ?_)
  refine VFact.mk rfl ?_
  repeat (first | refine VIf.tt ?_ | refine VIf.ff ?_)
  refine VFact.mk (fun _ => rfl) ?_
  refine ⟨_, ⟨[], [(0, some (.row 23 2 ps.length (cellsP ps)))], 1, M, nt, G⟩, ⟨⟨fun _ => 1, rfl, rfl, trivial, ⟨⟨rfl, rfl, rfl, ?_, ?_⟩, trivial⟩, injOK_one _ _ _⟩, rfl, rfl, rfl⟩, hK⟩
  · exact (Nat.zero_add _).symm
  · exact (List.nil_append _).symm

def injB (r : Nat → Nat) : List (Nat × Option OE) → Bool
  | [] => true
  | (i, _) :: l => (l.all fun p => Nat.beq i p.1 || !(Nat.beq (r i) (r p.1))) && injB r l
theorem injOK_b {r : Nat → Nat} : ∀ {l : List (Nat × Option OE)}, injB r l = true → injOK r l
  | [], _ => trivial
  | (i, e) :: l, h => by
    simp only [injB, Bool.and_eq_true, List.all_eq_true, Bool.or_eq_true, Bool.not_eq_true'] at h
    refine ⟨fun j hj => ?_, injOK_b h.2⟩
    obtain ⟨p, hp, rfl⟩ := List.mem_map.1 hj
    rcases h.1 p hp with h | h
    · exact .inl (Nat.eq_of_beq_eq_true h)
    · refine .inr fun e => ?_
      rw [e] at h
      have : Nat.beq (r p.1) (r p.1) = true := Nat.beq_refl _
      rw [this] at h; cases h
set_option maxHeartbeats 2000000 in
theorem Push_call0 {s : List Pt} {z : Int} {nt : Nat} {n m : Nat} {cs ds : List Value} {C : List Pt} {x : Pt} {M : Mem} {G : Gh} {K : SV → St → Prop} (hn : n = C.length) (hc : cs = cellsP C.reverse) (hlen : C.length ≤ 100000) (hC : ∀ p ∈ C, isC p.1 ∧ isC p.2) (hx : isC x.1 ∧ isC x.2)
    (hK : K (.v (.tuple #[])) ⟨[(4, .box 0 0), (5, .box 2 0), (6, .box 4 0), (22, .row 5), (3, .row 5), (23, .v (.int .i64 s.length)), (24, .v (.int .i64 z))], [(0, some (.box 83 [.row 1])), (1, some (.row 23 2 (pushR C x).length (cellsP (pushR C x).reverse))), (2, some (.box 83 [.row 3])), (3, some (.row 23 2 m ds)), (4, some (.box 84 [.clo 64 [.box 0 0] []])), (5, some (.row 23 2 s.length (cellsP s)))], 6, M, nt, G⟩) :
    VCall Tryz.prog 64 [.box 0 0, .v (ptv x)] ⟨[(4, .box 0 0), (5, .box 2 0), (6, .box 4 0), (22, .row 5), (3, .row 5), (23, .v (.int .i64 s.length)), (24, .v (.int .i64 z))], [(0, some (.box 83 [.row 1])), (1, some (.row 23 2 n cs)), (2, some (.box 83 [.row 3])), (3, some (.row 23 2 m ds)), (4, some (.box 84 [.clo 64 [.box 0 0] []])), (5, some (.row 23 2 s.length (cellsP s)))], 6, M, nt, G⟩ K := by
  subst hn; subst hc
  refine VCall.post ?_
  refine VCall.inline cxOK Tryz.func64 rfl rfl rfl [(4, .box 0 0), (5, .box 2 0), (6, .box 4 0), (22, .row 5), (3, .row 5)] [(23, .int .i64 s.length), (24, .int .i64 z)] (by repeat' constructor) (by repeat' constructor) ?_
  intro val f0
  repeat (first | refine VIf.tt ?_ | refine VIf.ff ?_)
  refine VCode.loopG cxOK (fun m => m = fun _ => none) rfl (List Pt) (fun R => ⟨[(0, .box 0 0), (3, .box 11 0), (4, .row 1)], [(0, some (.box 83 [.row 12])), (1, some (.row 23 2 R.length (cellsP R.reverse))), (2, some (.box 83 [.row 3])), (3, some (.row 23 2 m ds)), (4, some (.box 84 [.clo 64 [.box 0 0] []])), (5, some (.row 23 2 s.length (cellsP s))), (6, some (.gh 4 (val 4) (.box 0 0))), (7, some (.gh 5 (val 5) (.box 2 0))), (8, some (.gh 6 (val 6) (.box 4 0))), (9, some (.gh 22 (val 22) (.row 5))), (10, some (.gh 3 (val 3) (.row 5))), (11, some (.box 23 [.v (.int .i64 x.1), .v (.int .i64 x.2)]))], 13, M, 39, ⟨fun _ => none, none, f0⟩⟩)
    (fun R => popR R x = popR C x ∧ R.length ≤ C.length ∧ ∀ p ∈ R, p ∈ C) (fun R => R.length) C ⟨rfl, Nat.le_refl _, fun p hp => hp⟩ ?_ ?_
  · refine Wk.mk' (fun i => if i = 12 then 1 else i) (by repeat' constructor) (by repeat' constructor) (injOK_b rfl) rfl rfl rfl
  rintro R ⟨hp1, hp2, hp3⟩ m' rfl
  repeat (first | refine VIf.tt ?_ | refine VIf.ff ?_)
  refine VDraw.go (by kernel_rfl) ?_
  repeat (first | refine VIf.tt ?_ | refine VIf.ff ?_)
  refine VIf.mk (fun h1 => ?_) (fun h1 => ?_)
  · have h1 : 1 < R.length := by have := of_decide_eq_true h1; omega
    obtain ⟨b, a, r, rfl⟩ : ∃ b a r, R = b :: a :: r := by
      match R, h1 with
      | b :: a :: r, _ => exact ⟨b, a, r, rfl⟩
    have hl : (b :: a :: r).length = r.length + 2 := rfl
    have hlr : (b :: a :: r).reverse.length = r.length + 2 := by simp
    have e1 : gp (b :: a :: r).reverse r.length = a := by simp [gp, List.getD_eq_getElem?_getD]
    have e2 : gp (b :: a :: r).reverse (r.length + 1) = b := by simp [gp, List.getD_eq_getElem?_getD]
    have ha := hC a (hp3 a (by simp))
    have hb := hC b (hp3 b (by simp))
    repeat (first | refine VIf.tt ?_ | refine VIf.ff ?_)
    refine VArith.ok (by first | omega | (simp only; omega)) (by first | omega | (simp only; omega)) ?_
    repeat (first | refine VIf.tt ?_ | refine VIf.ff ?_)
    refine VIdxR.mk r.length (by omega) (by omega) ?_
    repeat (first | refine VIf.tt ?_ | refine VIf.ff ?_)
    refine VCells.mk [.int .i64 a.1, .int .i64 a.2] rfl (by have := rowP_get (b :: a :: r).reverse (i := r.length) (by omega); rw [e1] at this; exact this) ?_
    repeat (first | refine VIf.tt ?_ | refine VIf.ff ?_)
    refine VArith.ok (by first | omega | (simp only; omega)) (by first | omega | (simp only; omega)) ?_
    repeat (first | refine VIf.tt ?_ | refine VIf.ff ?_)
    refine VIdxR.mk (r.length + 1) (by omega) (by omega) ?_
    repeat (first | refine VIf.tt ?_ | refine VIf.ff ?_)
    refine VCells.mk [.int .i64 b.1, .int .i64 b.2] rfl (by have := rowP_get (b :: a :: r).reverse (i := r.length + 1) (by omega); rw [e2] at this; exact this) ?_
    repeat (first | refine VIf.tt ?_ | refine VIf.ff ?_)
    refine VFn.p (turn_fn _ _ _ _ _ _ _ ha.1 ha.2 hb.1 hb.2 hx.1 hx.2) ?_
    repeat (first | refine VIf.tt ?_ | refine VIf.ff ?_)
    refine VIf.mk (fun hc => ?_) (fun hc => ?_)
    · have hc : crossP a b x ≤ 0 := of_decide_eq_true hc
      repeat (first | refine VIf.tt ?_ | refine VIf.ff ?_)
      refine VArith.ok (by first | omega | (simp only; omega)) (by first | omega | (simp only; omega)) ?_
      repeat (first | refine VIf.tt ?_ | refine VIf.ff ?_)
      refine VBnd.mk (r.length + 1) (by omega) (by omega) ?_
      refine ⟨rfl, a :: r, ⟨?_, ?_, ?_⟩, ?_, ?_⟩
      · rw [← hp1]; simp only [popR]; rw [if_pos hc]
      · have : (a :: r).length = r.length + 1 := rfl
        omega
      · exact fun p hp => hp3 p (List.mem_cons_of_mem _ hp)
      · simp
      · have e : List.take ((r.length + 1) * 2) (cellsP (b :: a :: r).reverse) = cellsP (a :: r).reverse := by
          rw [cellsP_take, List.reverse_cons, List.take_append_of_le_length (by simp), List.take_of_length_le (by simp)]
        exact Wk.mk' (fun i => if i = 1 then 13 else i) (by repeat' constructor) (by repeat' (first | exact e.symm | constructor)) (injOK_b rfl) rfl rfl rfl
    · have hc : ¬ crossP a b x ≤ 0 := of_decide_eq_false hc
      have hend : popR (b :: a :: r) x = b :: a :: r := by simp only [popR]; rw [if_neg hc]
      have hlen' : (b :: a :: r).length ≤ 100000 := by omega
      generalize b :: a :: r = R at *
      repeat (first | refine VIf.tt ?_ | refine VIf.ff ?_)
      refine VFact.mk (by simp only; omega) ?_
      repeat (first | refine VIf.tt ?_ | refine VIf.ff ?_)
      refine VFact.mk rfl ?_
      repeat (first | refine VIf.tt ?_ | refine VIf.ff ?_)
      refine VFact.mk (fun _ => rfl) ?_
      repeat refine VFact.mk rfl ?_
      have hpu : pushR C x = x :: R := by unfold pushR; rw [← hp1, hend]
      have el : (pushR C x).length = R.length + 1 := by rw [hpu]; rfl
      have ec : cellsP R.reverse ++ ([Value.int .i64 x.1, .int .i64 x.2] ++ []) = cellsP (pushR C x).reverse := by rw [hpu, List.reverse_cons]; simp [cellsP]
      refine ⟨.v (.tuple #[]), _, ?_, hK⟩
      refine ⟨⟨fun i => if i = 1 then 14 else i, rfl, rfl, ?_, ?_, ?_⟩, rfl, rfl, rfl⟩
      · repeat' constructor
      · repeat' (first | exact el | exact ec.symm | exact el.symm | exact ec | constructor)
      · exact injOK_b rfl
  · have hend : popR R x = R := popR_short x (by have := of_decide_eq_false h1; omega)
    have hlen' : R.length ≤ 100000 := by omega
    repeat (first | refine VIf.tt ?_ | refine VIf.ff ?_)
    refine VFact.mk (by simp only; omega) ?_
    repeat (first | refine VIf.tt ?_ | refine VIf.ff ?_)
    refine VFact.mk rfl ?_
    repeat (first | refine VIf.tt ?_ | refine VIf.ff ?_)
    refine VFact.mk (fun _ => rfl) ?_
    repeat refine VFact.mk rfl ?_
    have hpu : pushR C x = x :: R := by unfold pushR; rw [← hp1, hend]
    have el : (pushR C x).length = R.length + 1 := by rw [hpu]; rfl
    have ec : cellsP R.reverse ++ ([Value.int .i64 x.1, .int .i64 x.2] ++ []) = cellsP (pushR C x).reverse := by rw [hpu, List.reverse_cons]; simp [cellsP]
    refine ⟨.v (.tuple #[]), _, ?_, hK⟩
    refine ⟨⟨fun i => if i = 1 then 14 else i, rfl, rfl, ?_, ?_, ?_⟩, rfl, rfl, rfl⟩
    · repeat' constructor
    · repeat' (first | exact el | exact ec.symm | exact el.symm | exact ec | constructor)
    · exact injOK_b rfl
set_option maxHeartbeats 2000000 in
theorem Push_call2 {nt : Nat} {n m : Nat} {cs ds : List Value} {C : List Pt} {x : Pt} {M : Mem} {G : Gh} {K : SV → St → Prop} (hn : n = C.length) (hc : cs = cellsP C.reverse) (hlen : C.length ≤ 100000) (hC : ∀ p ∈ C, isC p.1 ∧ isC p.2) (hx : isC x.1 ∧ isC x.2)
    (hK : K (.v (.tuple #[])) ⟨[(4, .box 0 0), (5, .box 2 0), (6, .box 4 0)], [(2, some (.box 83 [.row 3])), (3, some (.row 23 2 (pushR C x).length (cellsP (pushR C x).reverse))), (0, some (.box 83 [.row 1])), (1, some (.row 23 2 m ds)), (4, some (.box 84 [.clo 64 [.box 2 0] []]))], 5, M, nt, G⟩) :
    VCall Tryz.prog 64 [.box 2 0, .v (ptv x)] ⟨[(4, .box 0 0), (5, .box 2 0), (6, .box 4 0)], [(2, some (.box 83 [.row 3])), (3, some (.row 23 2 n cs)), (0, some (.box 83 [.row 1])), (1, some (.row 23 2 m ds)), (4, some (.box 84 [.clo 64 [.box 2 0] []]))], 5, M, nt, G⟩ K := by
  subst hn; subst hc
  refine VCall.post ?_
  refine VCall.inline cxOK Tryz.func64 rfl rfl rfl [(4, .box 0 0), (5, .box 2 0), (6, .box 4 0)] [] (by repeat' constructor) (by repeat' constructor) ?_
  intro val f0
  repeat (first | refine VIf.tt ?_ | refine VIf.ff ?_)
  refine VCode.loopG cxOK (fun m => m = fun _ => none) rfl (List Pt) (fun R => ⟨[(0, .box 2 0), (3, .box 8 0), (4, .row 3)], [(2, some (.box 83 [.row 9])), (3, some (.row 23 2 R.length (cellsP R.reverse))), (0, some (.box 83 [.row 1])), (1, some (.row 23 2 m ds)), (4, some (.box 84 [.clo 64 [.box 2 0] []])), (5, some (.gh 4 (val 4) (.box 0 0))), (6, some (.gh 5 (val 5) (.box 2 0))), (7, some (.gh 6 (val 6) (.box 4 0))), (8, some (.box 23 [.v (.int .i64 x.1), .v (.int .i64 x.2)]))], 10, M, 39, ⟨fun _ => none, none, f0⟩⟩)
    (fun R => popR R x = popR C x ∧ R.length ≤ C.length ∧ ∀ p ∈ R, p ∈ C) (fun R => R.length) C ⟨rfl, Nat.le_refl _, fun p hp => hp⟩ ?_ ?_
  · refine Wk.mk' (fun i => if i = 9 then 3 else i) (by repeat' constructor) (by repeat' constructor) (injOK_b rfl) rfl rfl rfl
  rintro R ⟨hp1, hp2, hp3⟩ m' rfl
  repeat (first | refine VIf.tt ?_ | refine VIf.ff ?_)
  refine VDraw.go (by kernel_rfl) ?_
  repeat (first | refine VIf.tt ?_ | refine VIf.ff ?_)
  refine VIf.mk (fun h1 => ?_) (fun h1 => ?_)
  · have h1 : 1 < R.length := by have := of_decide_eq_true h1; omega
    obtain ⟨b, a, r, rfl⟩ : ∃ b a r, R = b :: a :: r := by
      match R, h1 with
      | b :: a :: r, _ => exact ⟨b, a, r, rfl⟩
    have hl : (b :: a :: r).length = r.length + 2 := rfl
    have hlr : (b :: a :: r).reverse.length = r.length + 2 := by simp
    have e1 : gp (b :: a :: r).reverse r.length = a := by simp [gp, List.getD_eq_getElem?_getD]
    have e2 : gp (b :: a :: r).reverse (r.length + 1) = b := by simp [gp, List.getD_eq_getElem?_getD]
    have ha := hC a (hp3 a (by simp))
    have hb := hC b (hp3 b (by simp))
    repeat (first | refine VIf.tt ?_ | refine VIf.ff ?_)
    refine VArith.ok (by first | omega | (simp only; omega)) (by first | omega | (simp only; omega)) ?_
    repeat (first | refine VIf.tt ?_ | refine VIf.ff ?_)
    refine VIdxR.mk r.length (by omega) (by omega) ?_
    repeat (first | refine VIf.tt ?_ | refine VIf.ff ?_)
    refine VCells.mk [.int .i64 a.1, .int .i64 a.2] rfl (by have := rowP_get (b :: a :: r).reverse (i := r.length) (by omega); rw [e1] at this; exact this) ?_
    repeat (first | refine VIf.tt ?_ | refine VIf.ff ?_)
    refine VArith.ok (by first | omega | (simp only; omega)) (by first | omega | (simp only; omega)) ?_
    repeat (first | refine VIf.tt ?_ | refine VIf.ff ?_)
    refine VIdxR.mk (r.length + 1) (by omega) (by omega) ?_
    repeat (first | refine VIf.tt ?_ | refine VIf.ff ?_)
    refine VCells.mk [.int .i64 b.1, .int .i64 b.2] rfl (by have := rowP_get (b :: a :: r).reverse (i := r.length + 1) (by omega); rw [e2] at this; exact this) ?_
    repeat (first | refine VIf.tt ?_ | refine VIf.ff ?_)
    refine VFn.p (turn_fn _ _ _ _ _ _ _ ha.1 ha.2 hb.1 hb.2 hx.1 hx.2) ?_
    repeat (first | refine VIf.tt ?_ | refine VIf.ff ?_)
    refine VIf.mk (fun hc => ?_) (fun hc => ?_)
    · have hc : crossP a b x ≤ 0 := of_decide_eq_true hc
      repeat (first | refine VIf.tt ?_ | refine VIf.ff ?_)
      refine VArith.ok (by first | omega | (simp only; omega)) (by first | omega | (simp only; omega)) ?_
      repeat (first | refine VIf.tt ?_ | refine VIf.ff ?_)
      refine VBnd.mk (r.length + 1) (by omega) (by omega) ?_
      refine ⟨rfl, a :: r, ⟨?_, ?_, ?_⟩, ?_, ?_⟩
      · rw [← hp1]; simp only [popR]; rw [if_pos hc]
      · have : (a :: r).length = r.length + 1 := rfl
        omega
      · exact fun p hp => hp3 p (List.mem_cons_of_mem _ hp)
      · simp
      · have e : List.take ((r.length + 1) * 2) (cellsP (b :: a :: r).reverse) = cellsP (a :: r).reverse := by
          rw [cellsP_take, List.reverse_cons, List.take_append_of_le_length (by simp), List.take_of_length_le (by simp)]
        exact Wk.mk' (fun i => if i = 3 then 10 else i) (by repeat' constructor) (by repeat' (first | exact e.symm | constructor)) (injOK_b rfl) rfl rfl rfl
    · have hc : ¬ crossP a b x ≤ 0 := of_decide_eq_false hc
      have hend : popR (b :: a :: r) x = b :: a :: r := by simp only [popR]; rw [if_neg hc]
      have hlen' : (b :: a :: r).length ≤ 100000 := by omega
      generalize b :: a :: r = R at *
      repeat (first | refine VIf.tt ?_ | refine VIf.ff ?_)
      refine VFact.mk (by simp only; omega) ?_
      repeat (first | refine VIf.tt ?_ | refine VIf.ff ?_)
      refine VFact.mk rfl ?_
      repeat (first | refine VIf.tt ?_ | refine VIf.ff ?_)
      refine VFact.mk (fun _ => rfl) ?_
      repeat refine VFact.mk rfl ?_
      have hpu : pushR C x = x :: R := by unfold pushR; rw [← hp1, hend]
      have el : (pushR C x).length = R.length + 1 := by rw [hpu]; rfl
      have ec : cellsP R.reverse ++ ([Value.int .i64 x.1, .int .i64 x.2] ++ []) = cellsP (pushR C x).reverse := by rw [hpu, List.reverse_cons]; simp [cellsP]
      refine ⟨.v (.tuple #[]), _, ?_, hK⟩
      refine ⟨⟨fun i => if i = 3 then 11 else i, rfl, rfl, ?_, ?_, ?_⟩, rfl, rfl, rfl⟩
      · repeat' constructor
      · repeat' (first | exact el | exact ec.symm | exact el.symm | exact ec | constructor)
      · exact injOK_b rfl
  · have hend : popR R x = R := popR_short x (by have := of_decide_eq_false h1; omega)
    have hlen' : R.length ≤ 100000 := by omega
    repeat (first | refine VIf.tt ?_ | refine VIf.ff ?_)
    refine VFact.mk (by simp only; omega) ?_
    repeat (first | refine VIf.tt ?_ | refine VIf.ff ?_)
    refine VFact.mk rfl ?_
    repeat (first | refine VIf.tt ?_ | refine VIf.ff ?_)
    refine VFact.mk (fun _ => rfl) ?_
    repeat refine VFact.mk rfl ?_
    have hpu : pushR C x = x :: R := by unfold pushR; rw [← hp1, hend]
    have el : (pushR C x).length = R.length + 1 := by rw [hpu]; rfl
    have ec : cellsP R.reverse ++ ([Value.int .i64 x.1, .int .i64 x.2] ++ []) = cellsP (pushR C x).reverse := by rw [hpu, List.reverse_cons]; simp [cellsP]
    refine ⟨.v (.tuple #[]), _, ?_, hK⟩
    refine ⟨⟨fun i => if i = 3 then 11 else i, rfl, rfl, ?_, ?_, ?_⟩, rfl, rfl, rfl⟩
    · repeat' constructor
    · repeat' (first | exact el | exact ec.symm | exact el.symm | exact ec | constructor)
    · exact injOK_b rfl
end Go.Proofs.YtlppfikkgcfaoaaGreat

/- Contract: hull.around. -/
namespace Go.Proofs.YtlppfikkgcfaoaaGreat
open Go Go.V Go.RowKit
/-- What slices.Backward yields. -/
def backL (ps : List Pt) : List (List Value) := (List.range ps.length).map fun (j : Nat) => [.int .i64 ((ps.length : Int) - 1 - (j : Int)), ptv (gp ps (ps.length - 1 - j))]
theorem Backward_fn (ad : Option Addr) (n c : Nat) (M : Mem) : V.Fn Tryz.prog 65 [.slice ad n c] M fun rs M' => ∃ B, rs = [.func (.func 80) #[] #[.pointer (some ⟨B, 0, none⟩)]] ∧ M' B = some (.cells #[.slice ad n c] 34 (0, 0)) := by
  refine Fn.of_vc cxOK Tryz.func65 rfl rfl rfl ?_
  repeat (first | refine VIf.tt ?_ | refine VIf.ff ?_)
  refine VFzB.mk fun x B M' hle hB => ?_
  repeat (first | refine VIf.tt ?_ | refine VIf.ff ?_)
  exact VFact.mk ⟨B, rfl, hB⟩ trivial
theorem Backward_iter (M : Mem) (B : Nat) (v : Value) (ps : List Pt) (hB : M B = some (.cells #[v] 34 (0, 0))) (hv : Pts M v ps) :
    Iter Tryz.prog 80 #[.pointer (some ⟨B, 0, none⟩)] M (backL ps) := by
  obtain ⟨ad, c, rfl⟩ := hv.shape
  obtain ⟨_, hm, hrd⟩ := hv.cellsOf
  unfold maxLen at hm
  refine Iter.of_vc cxOK Tryz.func80 rfl rfl rfl rfl fun l => ?_
  repeat (first | refine VIf.tt ?_ | refine VIf.ff ?_)
  refine VRead.mk _ (box1 hB) ?_
  conv => whnf
  repeat (first | refine VIf.tt ?_ | refine VIf.ff ?_)
  refine VArith.ok (by first | omega | (simp only; omega)) (by first | omega | (simp only; omega)) ?_
  repeat (first | refine VIf.tt ?_ | refine VIf.ff ?_)
  refine VCode.loopG cxOK (fun m => m = fun _ => none) rfl (Nat × Int)
    (fun s => ⟨[(0, .v (.func (.yield l) #[] #[])), (1, .v (.pointer (some ⟨B, 0, none⟩))), (3, .v (.int .i64 s.2))], [], 0, M, 19, ⟨fun _ => none, some (l, (backL ps).drop s.1), fun _ => none⟩⟩)
    (fun s => s.1 ≤ ps.length ∧ s.2 = (ps.length : Int) - 1 - (s.1 : Int)) (fun s => ps.length - s.1) (0, (ps.length : Int) - 1) ⟨Nat.zero_le _, by simp⟩ (Wk.mk' id (by repeat' constructor) (by repeat' constructor) (injOK_id _) rfl rfl rfl) ?_
  rintro ⟨i, z⟩ ⟨hi, hz⟩ m rfl
  have hi : i ≤ ps.length := hi
  have hz : z = (ps.length : Int) - 1 - (i : Int) := hz
  repeat (first | refine VIf.tt ?_ | refine VIf.ff ?_)
  refine VIf.mk (fun hlt => ?_) (fun hge => ?_)
  · have hlt : i < ps.length := by have := of_decide_eq_true hlt; omega
    obtain ⟨ad', ead, hpi⟩ := hrd M (Mem.le_refl _) (ps.length - 1 - i) (by omega)
    repeat (first | refine VIf.tt ?_ | refine VIf.ff ?_)
    refine VRead.mk _ (box1 hB) ?_
    conv => whnf
    repeat (first | refine VIf.tt ?_ | refine VIf.ff ?_)
    refine VIdx.mk ad' (ps.length - 1 - i) ead (by omega) (by omega) ?_
    repeat (first | refine VIf.tt ?_ | refine VIf.ff ?_)
    refine VReads.mk [.int .i64 (gp ps (ps.length - 1 - i)).1, .int .i64 (gp ps (ps.length - 1 - i)).2] rfl hpi ?_
    repeat (first | refine VIf.tt ?_ | refine VIf.ff ?_)
    refine VYield.mk ((backL ps).drop (i + 1)) ?_ ?_ ?_
    · simp only [Gh.mk.injEq, and_true, true_and, Option.some.injEq, Prod.mk.injEq]
      rw [List.drop_eq_getElem_cons (by simpa [backL] using hlt)]
      simp [backL, ptv, pt, hz]
    · repeat (first | refine VIf.tt ?_ | refine VIf.ff ?_)
      refine VArith.ok (by first | omega | (simp only; omega)) (by first | omega | (simp only; omega)) ?_
      exact ⟨rfl, (i + 1, z - 1), ⟨hlt, by simp only; omega⟩, (by first | omega | (simp only; omega)), (Wk.mk' id (by repeat' constructor) (by repeat' constructor) (injOK_id _) rfl rfl rfl)⟩
    · refine VIf.tt ?_
      exact VEnd.stop rfl
  · have hge : i = ps.length := by have := of_decide_eq_false hge; omega
    subst hge
    refine VEnd.all ?_
    simp [backL]
theorem backL_get {ps : List Pt} {k : Nat} {args : List Value} (h : (backL ps)[k]? = some args) : k < ps.length ∧ args = [.int .i64 ((ps.length : Int) - 1 - k), ptv (gp ps (ps.length - 1 - k))] := by
  simp only [backL, List.getElem?_map] at h
  cases hr : (List.range ps.length)[k]? with
  | none => rw [hr] at h; cases h
  | some i =>
    rw [hr] at h
    simp only [Option.map_some, Option.some.injEq] at h
    obtain ⟨h1, h2⟩ := List.getElem?_eq_some_iff.1 hr
    simp at h1 h2
    subst h2
    exact ⟨h1, h.symm⟩
theorem fold_mem : ∀ (l C : List Pt), ∀ {S : List Pt}, (∀ p ∈ C, p ∈ S) → ∀ p ∈ l.foldl pushR C, p ∈ S ∨ p ∈ l
  | [], C, S, h, p, hp => .inl (h p hp)
  | x :: l, C, S, h, p, hp => by
    simp only [List.foldl_cons] at hp
    rcases fold_mem l (pushR C x) (S := x :: S) (fun q hq => by
      rcases List.mem_cons.1 hq with rfl | hq
      · simp
      · exact List.mem_cons_of_mem _ (h q (popR_mem _ _ _ hq))) p hp with h1 | h1
    · rcases List.mem_cons.1 h1 with rfl | h1
      · exact .inr (by simp)
      · exact .inl h1
    · exact .inr (List.mem_cons_of_mem _ h1)
theorem fold_mem0 {l : List Pt} {p : Pt} (hp : p ∈ l.foldl pushR []) : p ∈ l := by
  rcases fold_mem l [] (S := []) (fun _ h => h) p hp with h | h
  · cases h
  · exact h
theorem fold_len : ∀ (l C : List Pt), (l.foldl pushR C).length ≤ C.length + l.length
  | [], C => by simp
  | x :: l, C => by
    have h1 := fold_len l (pushR C x)
    have h2 := popR_len C x
    have h3 : (pushR C x).length = (popR C x).length + 1 := rfl
    simp only [List.foldl_cons, List.length_cons]
    omega
theorem fold_pos : ∀ (l C : List Pt), l ≠ [] ∨ C ≠ [] → 0 < (l.foldl pushR C).length
  | [], C, h => by
    rcases h with h | h
    · exact absurd rfl h
    · exact List.length_pos_iff.2 h
  | x :: l, C, _ => by
    simp only [List.foldl_cons]
    exact fold_pos l _ (.inr (by simp [pushR]))
theorem SlAt.some {M : Mem} {sz n c : Nat} {ad : Option Addr} {xs : List Value} (h : SlAt M sz (.slice ad n c) n xs) (hn : 0 < n) : ∃ a, ad = .some a := by
  obtain ⟨a', c1, e, h1, h2, h3, h4, h5⟩ := h
  cases e
  obtain ⟨a, e, _⟩ := h5 hn
  exact ⟨a, e⟩
/-- The slice of all but the last corner. -/
theorem SlAt.pre {M M' : Mem} (hM : M.le M') {ad : Option Addr} {c : Nat} {A : List Pt} (h : SlAt M 2 (.slice ad A.length c) A.length (cellsP A.reverse)) (hA : 0 < A.length) :
    A.length ≤ c ∧ ∀ c', (c' = A.length - 1 ∨ c' = c) → SlAt M' 2 (.slice ad (A.length - 1) c') (A.length - 1) (cellsP A.tail.reverse) := by
  obtain ⟨a', c1, e, h1, h2, h3, h4, h5⟩ := h
  cases e
  refine ⟨h1, fun c' hc' => ?_⟩
  have hle : A.length - 1 ≤ c' := by omega
  have e : cellsP A.tail.reverse = (cellsP A.reverse).take ((A.length - 1) * 2) := by
    rw [cellsP_take]
    cases A with
    | nil => rfl
    | cons x r => simp
  refine ⟨ad, c', rfl, hle, by omega, by rw [cellsP_length]; simp, fun v hv => h4 v (by rw [e] at hv; exact List.mem_of_mem_take hv), fun hpos => ?_⟩
  obtain ⟨ad', rfl, hrd⟩ := h5 (by omega)
  refine ⟨ad', rfl, fun j v hj => Mem.cell_le hM (hrd j v ?_)⟩
  rw [e, List.getElem?_take] at hj
  split at hj
  · exact hj
  · cases hj
/-- The hull of places, as the chains make it. -/
def aroundP (ps : List Pt) : List Pt := if (compactP (sortP ps)).length < 3 then compactP (sortP ps) else lowP (compactP (sortP ps)) ++ highP (compactP (sortP ps))
set_option maxHeartbeats 1000000 in
theorem around_fn (v : Value) (ps : List Pt) (M : Mem) (hv : Pts M v ps) (hn : 1 ≤ ps.length) (hn' : ps.length ≤ 4000) (hC : ∀ p ∈ ps, isC p.1 ∧ isC p.2) : V.Fn Tryz.prog 46 [v] M fun rs M' => ∃ u, rs = [u] ∧ Pts M' u (aroundP ps) := by
  obtain ⟨ad, c, rfl⟩ := hv.shape
  refine Fn.of_vc cxIOK Tryz.func46 rfl rfl rfl ?_
  repeat (first | refine VIf.tt ?_ | refine VIf.ff ?_)
  refine VOwn.own ?_
  refine VCall.wk (st1 := ⟨[], [], 0, M, 54, ⟨fun _ => none, none, fun _ => none⟩⟩) (args1 := [.v (.slice ad ps.length c)]) id rfl rfl (by repeat' constructor) (by repeat' constructor) (injOK_id _) rfl rfl rfl ?_
  refine Clone_call hv hn (by omega) ?_
  repeat (first | refine VIf.tt ?_ | refine VIf.ff ?_)
  refine VOwn.own ?_
  refine Sort_call (ps := ps) rfl rfl rfl (by omega) ?_
  repeat (first | refine VIf.tt ?_ | refine VIf.ff ?_)
  refine VOwn.own ?_
  refine VCall.wk (st1 := ⟨[], [(0, some (.row 23 2 ps.length (cellsP (sortP ps))))], 1, M, 54, ⟨fun _ => none, none, fun _ => none⟩⟩) (args1 := [.row 0]) id rfl rfl (by repeat' constructor) (by repeat' constructor) (injOK_id _) rfl rfl rfl ?_
  refine Compact_call (ps := sortP ps) (by simp [sortP]) rfl (by simp [sortP]; omega) ?_
  have hlen : (compactP (sortP ps)).length ≤ 4000 := by
    have := comp_len (sortP ps) (sortP ps).length
    have e : (sortP ps).length = ps.length := by simp [sortP]
    unfold compactP; omega
  have hS : ∀ p ∈ compactP (sortP ps), isC p.1 ∧ isC p.2 := fun p hp => by
    simp only [compactP, comp, List.mem_map, List.mem_filter, List.mem_range] at hp
    obtain ⟨i, ⟨hi, _⟩, rfl⟩ := hp
    have : gp (sortP ps) i ∈ sortP ps := gp_mem hi
    exact hC _ (by simpa [sortP] using this)
  unfold aroundP
  generalize compactP (sortP ps) = s at *
  repeat (first | refine VIf.tt ?_ | refine VIf.ff ?_)
  refine VIf.mk (fun h => ?_) (fun h => ?_)
  · have h : s.length < 3 := by have := of_decide_eq_true h; omega
    rw [if_pos h]
    repeat (first | refine VIf.tt ?_ | refine VIf.ff ?_)
    refine VFz.mk fun x B M' hle hx => ?_
    repeat (first | refine VIf.tt ?_ | refine VIf.ff ?_)
    exact VFact.mk ⟨x, rfl, hx⟩ trivial
  have h : ¬ s.length < 3 := by have := of_decide_eq_false h; omega
  rw [if_neg h]
  repeat (first | refine VIf.tt ?_ | refine VIf.ff ?_)
  refine VCode.loop cxIOK Nat
    (fun k => ⟨[(4, .box 0 0), (5, .box 2 0), (6, .box 4 0), (22, .row 5), (3, .row 5), (23, .v (.int .i64 s.length)), (24, .v (.int .i64 k))],
      [(0, some (.box 83 [.row 1])), (1, some (.row 23 2 ((s.take k).foldl pushR []).length (cellsP ((s.take k).foldl pushR []).reverse))), (2, some (.box 83 [.row 3])), (3, some (.row 23 2 0 [])), (4, some (.box 84 [.clo 64 [.box 0 0] []])), (5, some (.row 23 2 s.length (cellsP s)))], 6, M, 54, ⟨fun _ => none, none, fun _ => none⟩⟩)
    (fun k => k ≤ s.length) (fun k => s.length - k) 0 (Nat.zero_le _) ?_ ?_
  · refine Wk.nilBox 1 83 [] [] 23 2 rfl ?_
    refine Wk.nilBox 2 83 [] [] 23 2 rfl ?_
    refine Wk.mk' (fun i => if i = 0 then 1 else if i = 1 then 4 else if i = 2 then 2 else if i = 3 then 5 else if i = 4 then 3 else 0) (by repeat' constructor) (by repeat' constructor) (injOK_b rfl) rfl rfl rfl
  · rintro k hk m
    have hk : k ≤ s.length := hk
    repeat (first | refine VIf.tt ?_ | refine VIf.ff ?_)
    refine VIf.mk (fun hlt => ?_) (fun hge => ?_)
    · have hlt : k < s.length := lt_of_dec hlt
      have hCm : ∀ p ∈ (s.take k).foldl pushR [], isC p.1 ∧ isC p.2 := fun p hp => hS p (List.mem_of_mem_take (fold_mem0 hp))
      have hCl : ((s.take k).foldl pushR []).length ≤ 100000 := by
        have := fold_len (s.take k) []
        simp at this; omega
      repeat (first | refine VIf.tt ?_ | refine VIf.ff ?_)
      refine VIdxR.mk k rfl hlt ?_
      repeat (first | refine VIf.tt ?_ | refine VIf.ff ?_)
      refine VCells.mk [.int .i64 (gp s k).1, .int .i64 (gp s k).2] rfl (rowP_get s hlt) ?_
      repeat (first | refine VIf.tt ?_ | refine VIf.ff ?_)
      refine VOwn.own ?_
      refine VCall.wk (st1 := ⟨[(4, .box 0 0), (5, .box 2 0), (6, .box 4 0), (22, .row 5), (3, .row 5), (23, .v (.int .i64 s.length)), (24, .v (.int .i64 k))],
        [(0, some (.box 83 [.row 1])), (1, some (.row 23 2 ((s.take k).foldl pushR []).length (cellsP ((s.take k).foldl pushR []).reverse))), (2, some (.box 83 [.row 3])), (3, some (.row 23 2 0 [])), (4, some (.box 84 [.clo 64 [.box 0 0] []])), (5, some (.row 23 2 s.length (cellsP s)))], 6, M, 54, ⟨m, none, fun _ => none⟩⟩) (args1 := [.box 0 0, .v (ptv (gp s k))]) id rfl rfl (by repeat' constructor) (by repeat' constructor) (injOK_id _) rfl rfl rfl ?_
      refine Push_call0 rfl rfl hCl hCm (hS _ (gp_mem hlt)) ?_
      repeat (first | refine VIf.tt ?_ | refine VIf.ff ?_)
      refine VArith.ok (by first | omega | (simp only; omega)) (by first | omega | (simp only; omega)) ?_
      have e : (s.take (k + 1)).foldl pushR [] = pushR ((s.take k).foldl pushR []) (gp s k) := by
        have : s[k]? = some (gp s k) := by simp [gp, hlt]
        rw [List.take_add_one, List.foldl_append, this]; rfl
      have e1 := congrArg List.length e
      have e2 := congrArg (fun l : List Pt => cellsP l.reverse) e
      exact ⟨k + 1, hlt, (by first | omega | (simp only; omega)), Wk.mk' id (by repeat' constructor) (by repeat' (first | exact e1.symm | exact e2.symm | exact e1 | exact e2 | constructor)) (injOK_id _) rfl rfl rfl⟩
    · have : k = s.length := by have := ge_of_dec hge; omega
      subst this
      rw [List.take_length]
      repeat (first | refine VIf.tt ?_ | refine VIf.ff ?_)
      refine VOwn.frz ?_
      repeat (first | refine VIf.tt ?_ | refine VIf.ff ?_)
      refine VFz.mk fun x B M1 hle hx => ?_
      obtain ⟨xd, xc, rfl⟩ := SlAt.shape hx
      repeat (first | refine VIf.tt ?_ | refine VIf.ff ?_)
      refine VFn.mk _ (Backward_fn xd s.length xc M1) ?_
      rintro rs M2 hM2 ⟨B2, rfl, hB2⟩
      repeat (first | refine VIf.tt ?_ | refine VIf.ff ?_)
      refine VCode.rangeB cxIOK rfl (Backward_iter M2 B2 _ s hB2 (hx.le hM2)) (fun x hx => ?_) [(4, .box 0 0), (5, .box 2 0), (6, .box 4 0)] rfl (by kernel_rfl) (by kernel_rfl) Unit
        (fun k _ => ⟨[(4, .box 0 0), (5, .box 2 0), (6, .box 4 0)],
          [(2, some (.box 83 [.row 3])), (3, some (.row 23 2 ((s.reverse.take k).foldl pushR []).length (cellsP ((s.reverse.take k).foldl pushR []).reverse))), (0, some (.box 83 [.row 1])), (1, some (.row 23 2 (s.foldl pushR []).length (cellsP (s.foldl pushR []).reverse))), (4, some (.box 84 [.clo 64 [.box 2 0] []]))], 5, M2, 54, ⟨fun _ => none, none, fun _ => none⟩⟩)
        (fun k _ => k ≤ s.length) () (Nat.zero_le _) ?_ (fun k s => ⟨rfl, rfl⟩) ?_ ?_
      · obtain ⟨i, hi⟩ := List.getElem?_of_mem hx
        obtain ⟨_, rfl⟩ := backL_get hi
        rfl
      · refine Wk.mk' id (by repeat' constructor) (by repeat' constructor) (injOK_id _) rfl rfl rfl
      · rintro k _ args hk hxs m f
        obtain ⟨hk', rfl⟩ := backL_get hxs
        intro m'
        have hCm : ∀ p ∈ (s.reverse.take k).foldl pushR [], isC p.1 ∧ isC p.2 := fun p hp => hS p (List.mem_reverse.1 (List.mem_of_mem_take (fold_mem0 hp)))
        have hCl : ((s.reverse.take k).foldl pushR []).length ≤ 100000 := by
          have := fold_len (s.reverse.take k) []
          simp at this; omega
        repeat (first | refine VIf.tt ?_ | refine VIf.ff ?_)
        refine VOwn.own ?_
        refine VCall.wk (st1 := ⟨[(4, .box 0 0), (5, .box 2 0), (6, .box 4 0)],
          [(2, some (.box 83 [.row 3])), (3, some (.row 23 2 ((s.reverse.take k).foldl pushR []).length (cellsP ((s.reverse.take k).foldl pushR []).reverse))), (0, some (.box 83 [.row 1])), (1, some (.row 23 2 (s.foldl pushR []).length (cellsP (s.foldl pushR []).reverse))), (4, some (.box 84 [.clo 64 [.box 2 0] []]))], 5, M2, 54, ⟨m', none, f⟩⟩) (args1 := [.box 2 0, .v (ptv (gp s (s.length - 1 - k)))]) id rfl rfl (by repeat' constructor) (by repeat' constructor) (injOK_id _) rfl rfl rfl ?_
        refine Push_call2 rfl rfl hCl hCm (hS _ (gp_mem (by omega))) ?_
        have e : (s.reverse.take (k + 1)).foldl pushR [] = pushR ((s.reverse.take k).foldl pushR []) (gp s (s.length - 1 - k)) := by
          have : s.reverse[k]? = some (gp s (s.length - 1 - k)) := by
            have h1 : s.length - 1 - k < s.length := by omega
            simp [gp, List.getElem?_reverse, hk', h1]
          rw [List.take_add_one, List.foldl_append, this]; rfl
        have e1 := congrArg List.length e
        have e2 := congrArg (fun l : List Pt => cellsP l.reverse) e
        exact ⟨(), hk', Wk.mk' id (by repeat' constructor) (by repeat' (first | exact e1.symm | exact e2.symm | exact e1 | exact e2 | constructor)) (injOK_id _) rfl rfl rfl⟩
      · rintro _ m hk
        have hl : (backL s).length = s.length := by simp [backL]
        rw [hl]
        repeat (first | refine VIf.tt ?_ | refine VIf.ff ?_)
        refine VDraw.frz [4, 5] (by kernel_rfl) ?_
        repeat (first | refine VIf.tt ?_ | refine VIf.ff ?_)
        refine VFz.mk fun x1 B1 M3 hM3 hx1 => ?_
        obtain ⟨a1, c1, rfl⟩ := SlAt.shape hx1
        obtain ⟨a1, rfl⟩ := SlAt.some hx1 (fold_pos s [] (.inl (by intro e; subst e; simp at h)))
        repeat (first | refine VIf.tt ?_ | refine VIf.ff ?_)
        refine VFzB.mk fun x1' C1 M4 hM4 hC1 => ?_
        repeat (first | refine VIf.tt ?_ | refine VIf.ff ?_)
        refine VFz.mk fun x2 B2 M5 hM5 hx2 => ?_
        obtain ⟨a2, c2, rfl⟩ := SlAt.shape hx2
        repeat (first | refine VIf.tt ?_ | refine VIf.ff ?_)
        refine VFzB.mk fun x2' C2 M6 hM6 hC2 => ?_
        have k1 : M6.cell ⟨C1, 0, none⟩ = some (.slice (some a1) (s.foldl pushR []).length c1) := by
          have := (hM5.trans hM6) _ _ hC1
          simp [Mem.cell, this]
        have k2 : M6.cell ⟨C2, 0, none⟩ = some (.slice a2 ((s.reverse.take s.length).foldl pushR []).length c2) := by
          simp [Mem.cell, hC2]
        repeat (first | refine VIf.tt ?_ | refine VIf.ff ?_)
        refine VRead.mk _ k1 ?_
        repeat (first | refine VIf.tt ?_ | refine VIf.ff ?_)
        refine VRead.mk _ k1 ?_
        rw [List.take_of_length_le (show s.reverse.length ≤ s.length by simp)] at hx2 k2 ⊢
        have n1 := fold_pos s [] (.inl (by intro e; subst e; simp at h))
        have n2 := fold_pos s.reverse [] (.inl (by intro e; simp at e; subst e; simp at h))
        have b1 := fold_len s []
        have b2 := fold_len s.reverse []
        simp only [List.length_nil, List.length_reverse, Nat.zero_add] at b1 b2
        have p1 := SlAt.pre (((hM4.trans hM5).trans hM6)) hx1 n1
        have p2 := SlAt.pre hM6 hx2 n2
        generalize hA : s.foldl pushR [] = A at *
        generalize hB : s.reverse.foldl pushR [] = B at *
        repeat (first | refine VIf.tt ?_ | refine VIf.ff ?_)
        refine VArith.ok (by first | omega | (simp only; omega)) (by first | omega | (simp only; omega)) ?_
        repeat (first | refine VIf.tt ?_ | refine VIf.ff ?_)
        refine VRead.mk _ k1 ?_
        repeat (first | refine VIf.tt ?_ | refine VIf.ff ?_)
        refine VArith.ok (by first | omega | (simp only; omega)) (by first | omega | (simp only; omega)) ?_
        repeat (first | refine VIf.tt ?_ | refine VIf.ff ?_)
        refine VBnd.mk (A.length - 1) (by omega) (by omega) ?_
        repeat (first | refine VIf.tt ?_ | refine VIf.ff ?_)
        refine VBnd.mk (A.length - 1) (by omega) (Nat.le_refl _) ?_
        repeat (first | refine VIf.tt ?_ | refine VIf.ff ?_)
        refine VRead.mk _ k2 ?_
        repeat (first | refine VIf.tt ?_ | refine VIf.ff ?_)
        refine VRead.mk _ k2 ?_
        repeat (first | refine VIf.tt ?_ | refine VIf.ff ?_)
        refine VArith.ok (by first | omega | (simp only; omega)) (by first | omega | (simp only; omega)) ?_
        repeat (first | refine VIf.tt ?_ | refine VIf.ff ?_)
        refine VBnd.mk (B.length - 1) (by omega) (by omega) ?_
        repeat (first | refine VIf.tt ?_ | refine VIf.ff ?_)
        refine VSl.mk (A.length - 1) (cellsP A.tail.reverse) (p1.2 _ (.inl rfl)) ?_
        repeat (first | refine VIf.tt ?_ | refine VIf.ff ?_)
        refine VFact.mk rfl ?_
        repeat (first | refine VIf.tt ?_ | refine VIf.ff ?_)
        refine VSl.mk (B.length - 1) (cellsP B.tail.reverse) (p2.2 _ (.inr rfl)) ?_
        repeat (first | refine VIf.tt ?_ | refine VIf.ff ?_)
        refine VFact.mk (by simp only; omega) ?_
        have e1 : lowP s = A.tail.reverse := by unfold lowP; rw [hA]
        have e2 : highP s = B.tail.reverse := by unfold highP; rw [hB]
        repeat (first | refine VIf.tt ?_ | refine VIf.ff ?_)
        refine VFact.mk (fun hz => ?_) (fun hp => ?_)
        · repeat (first | refine VIf.tt ?_ | refine VIf.ff ?_)
          refine VFact.mk ⟨_, rfl, ?_⟩ trivial
          have hz' : B.tail = [] := List.eq_nil_of_length_eq_zero (by rw [List.length_tail]; omega)
          rw [e1, e2, hz', List.reverse_nil, List.append_nil]
          have := p1.2 _ (.inl rfl)
          unfold Pts
          rw [show A.tail.reverse.length = A.length - 1 by simp]
          exact this
        · repeat (first | refine VIf.tt ?_ | refine VIf.ff ?_)
          refine VFz.mk fun x B9 M' hle hx => ?_
          repeat (first | refine VIf.tt ?_ | refine VIf.ff ?_)
          refine VFact.mk ⟨x, rfl, ?_⟩ trivial
          rw [e1, e2]
          unfold Pts
          have : cellsP (A.tail.reverse ++ B.tail.reverse) = cellsP A.tail.reverse ++ cellsP B.tail.reverse := by simp [cellsP]
          rw [this, show (A.tail.reverse ++ B.tail.reverse).length = A.length - 1 + (B.length - 1) by simp]
          exact hx
end Go.Proofs.YtlppfikkgcfaoaaGreat
