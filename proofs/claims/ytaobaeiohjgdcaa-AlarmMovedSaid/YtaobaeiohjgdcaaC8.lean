/- Contracts: hull.Has. -/
import Derived.Test.YtaobaeiohjgdcaaC7
namespace Go.Proofs.Ytaobaeiohjgdcaa
open Go Go.V Go.RowKit
theorem has_small (ps : List Pt) (hn : ps.length = 1 ∨ ps.length = 2) (x : Pt) :
    hasB ps x = (decide (crossP (gp ps 0) (gp ps (ps.length - 1)) x = 0) && decide ((boxLo ps).1 ≤ x.1) && decide (x.1 ≤ (boxHi ps).1) && decide ((boxLo ps).2 ≤ x.2) && decide (x.2 ≤ (boxHi ps).2)) := by
  match ps, hn with
  | [p], _ =>
    rw [Bool.eq_iff_iff]
    simp only [hasB, List.length_cons, List.length_nil, boxLo, boxHi, loB, hiB, gp, List.getD_cons_zero, List.foldl_cons, List.foldl_nil, Bool.and_eq_true, decide_eq_true_eq, if_true, beq_iff_eq]
    constructor
    · rintro rfl; simp [crossP_self]
    · rintro ⟨⟨⟨h1, h2⟩, h3⟩, h4⟩
      exact Prod.ext (by omega) (by omega)
  | [p, q], _ =>
    rw [Bool.eq_iff_iff]
    simp only [hasB, betwB, List.length_cons, List.length_nil, boxLo, boxHi, loB, hiB, gp, List.getD_cons_zero, List.getD_cons_succ, List.foldl_cons, List.foldl_nil, Bool.and_eq_true, decide_eq_true_eq, Nat.reduceAdd, Nat.reduceSub, Nat.reduceEqDiff, if_true, if_false]
    omega
  | [], h => simp at h
  | _ :: _ :: _ :: _, h => simp at h
set_option maxRecDepth 20000 in
theorem Has_fn (v : Value) (ps : List Pt) (x y : Int) (M : Mem) (hv : Pts M v ps) (hi64 : i64P ps) (hx : i64r x) (hy : i64r y) : V.Fn Try.prog 26 [v, pt x y] M fun rs _ => rs = if (validB ps && placeB (x, y)) = true then [.bool (hasB ps (x, y)), .int .i64 0] else [.bool false, .int .i64 1] := by
  obtain ⟨ad, c, rfl⟩ := hv.shape
  obtain ⟨_, hm, hrd⟩ := hv.cellsOf
  unfold maxLen at hm
  refine Fn.of_vc cxOK Try.func26 rfl rfl rfl ?_
  repeat (first | refine VIf.tt ?_ | refine VIf.ff ?_)
  refine VFn.mk _ (Valid_fn _ ps M hv hi64) ?_
  rintro rs M1 hM1 rfl
  repeat (first | refine VIf.tt ?_ | refine VIf.ff ?_)
  refine VIf.mk (fun hV => ?_) (fun hV => ?_)
  · repeat (first | refine VIf.tt ?_ | refine VIf.ff ?_)
    refine VFact.mk ?_ trivial
    rw [bn1 hV]; rfl
  have hV := bn2 hV
  have hC := allC_of hV
  have hn1 : 1 ≤ ps.length := by simp only [validB, Bool.and_eq_true, decide_eq_true_eq] at hV; omega
  repeat (first | refine VIf.tt ?_ | refine VIf.ff ?_)
  refine VFn.p (isPlace_fn _ _ _ hx hy) ?_
  repeat (first | refine VIf.tt ?_ | refine VIf.ff ?_)
  refine VIf.mk (fun hP => ?_) (fun hP => ?_)
  · repeat (first | refine VIf.tt ?_ | refine VIf.ff ?_)
    refine VFact.mk ?_ trivial
    rw [show placeB (x, y) = false from bn1 hP, Bool.and_false]; rfl
  have hP : placeB (x, y) = true := bn2 hP
  have hxy : isC x ∧ isC y := by
    simp only [placeB, Bool.and_eq_true] at hP
    exact ⟨isCb_iff.1 hP.1, isCb_iff.1 hP.2⟩
  rw [hV, hP]
  repeat (first | refine VIf.tt ?_ | refine VIf.ff ?_)
  refine VIf.mk (fun h3 => ?_) (fun h3 => ?_)
  · have h3 : ps.length = 1 ∨ ps.length = 2 := by simp only [decide_eq_true_eq] at h3; omega
    repeat (first | refine VIf.tt ?_ | refine VIf.ff ?_)
    refine VFn.mk _ (Box_fn _ ps M1 (hv.le hM1) hi64) ?_
    rintro rs M2 hM2 rfl
    rw [hV]
    have hs := has_small ps h3 (x, y)
    obtain ⟨lx, ly, hlo⟩ : ∃ lx ly, boxLo ps = (lx, ly) := ⟨_, _, rfl⟩
    obtain ⟨hx', hy', hhi⟩ : ∃ hx hy, boxHi ps = (hx, hy) := ⟨_, _, rfl⟩
    rw [hlo, hhi] at hs
    rw [hlo, hhi, hs]
    obtain ⟨ad', rfl, hp0⟩ := hrd M2 (hM1.trans hM2) 0 (by omega)
    obtain ⟨_, he, hp1⟩ := hrd M2 (hM1.trans hM2) (ps.length - 1) (by omega)
    cases he
    repeat (first | refine VIf.tt ?_ | refine VIf.ff ?_)
    refine VDraw.go (by kernel_rfl) ?_
    repeat (first | refine VIf.tt ?_ | refine VIf.ff ?_)
    refine VIdx.mk ad' 0 rfl rfl (by omega) ?_
    repeat (first | refine VIf.tt ?_ | refine VIf.ff ?_)
    refine VReads.mk [.int .i64 (gp ps 0).1, .int .i64 (gp ps 0).2] rfl hp0 ?_
    repeat (first | refine VIf.tt ?_ | refine VIf.ff ?_)
    refine VArith.ok (by first | omega | (simp only; omega)) (by first | omega | (simp only; omega)) ?_
    repeat (first | refine VIf.tt ?_ | refine VIf.ff ?_)
    refine VIdx.mk ad' (ps.length - 1) rfl (by omega) (by omega) ?_
    repeat (first | refine VIf.tt ?_ | refine VIf.ff ?_)
    refine VReads.mk [.int .i64 (gp ps (ps.length - 1)).1, .int .i64 (gp ps (ps.length - 1)).2] rfl hp1 ?_
    have htf := turn_fn _ _ _ _ _ _ M2 (hC 0 (by omega)).1 (hC 0 (by omega)).2 (hC (ps.length - 1) (by omega)).1 (hC (ps.length - 1) (by omega)).2 hxy.1 hxy.2
    have hcr : crossP (gp ps 0) (gp ps (ps.length - 1)) (x, y) = cross (gp ps 0).1 (gp ps 0).2 (gp ps (ps.length - 1)).1 (gp ps (ps.length - 1)).2 x y := rfl
    generalize cross (gp ps 0).1 (gp ps 0).2 (gp ps (ps.length - 1)).1 (gp ps (ps.length - 1)).2 x y = cr at htf hcr
    repeat (first | refine VIf.tt ?_ | refine VIf.ff ?_)
    refine VFn.p htf ?_
    repeat' (first | refine VIf.tt ?_ | refine VIf.ff ?_ | refine VIf.mk (fun _ => ?_) (fun _ => ?_))
    all_goals (refine VFact.mk ?_ trivial)
    all_goals (show _ = _; rw [hcr]; refine congrArg (fun b => [Value.bool b, Value.int .i64 0]) ?_)
    all_goals simp_all
    all_goals omega
  · have h3 : ¬ ps.length < 3 := by simp only [decide_eq_false_iff_not] at h3; omega
    repeat (first | refine VIf.tt ?_ | refine VIf.ff ?_)
    refine VFn.mk _ (sides_fn _ _ _ _) ?_
    rintro rs M2 hM2 ⟨B, rfl, hB⟩
    have hM2' : M.le M2 := hM1.trans hM2
    repeat (first | refine VIf.tt ?_ | refine VIf.ff ?_)
    refine VCode.rangeB cxOK rfl (sides_iter M2 B _ ps hB (hv.le hM2')) (fun x hx => ?_) [(3, .box 0 0), (4, .box 1 0), (5, .box 2 0)] rfl (by kernel_rfl) (by kernel_rfl) Unit
      (fun k s => ⟨[(3, .box 0 0), (4, .box 1 0), (5, .box 2 0)], [(2, some (.box 29 [.v (.int .i64 0)])), (1, some (.box 4 [.v (.bool false)])), (0, some (.box 39 [.v (.int .i64 x), .v (.int .i64 y)]))], 3, M2, 77, ⟨fun _ => none, none, fun _ => none⟩⟩)
      (fun k s => ∀ j, j < k → sideB ps (x, y) j = true) () (fun j hj => by omega) ?_ (fun k s => ⟨rfl, rfl⟩) ?_ ?_
    · simp only [sidesL, List.mem_map] at hx
      obtain ⟨k, _, rfl⟩ := hx
      rfl
    · exact (Wk.mk' id (by repeat' constructor) (by repeat' constructor) (injOK_id _) rfl rfl rfl)
    · rintro k s args hz hxs m f
      obtain ⟨hk, rfl⟩ := sidesL_get hxs
      have hk' : (k + 1) % ps.length < ps.length := Nat.mod_lt _ (by omega)
      intro m'
      repeat (first | refine VIf.tt ?_ | refine VIf.ff ?_)
      refine VFn.p (turn_fn _ _ _ _ _ _ _ (hC k hk).1 (hC k hk).2 (hC _ hk').1 (hC _ hk').2 hxy.1 hxy.2) ?_
      repeat (first | refine VIf.tt ?_ | refine VIf.ff ?_)
      refine VIf.mk (fun ht => ?_) (fun ht => ?_)
      · refine ⟨(⟨[(3, .box 0 0), (4, .box 1 0), (5, .box 2 0)], [(2, some (.box 29 [.v (.int .i64 0)])), (1, some (.box 4 [.v (.bool false)])), (0, some (.box 39 [.v (.int .i64 x), .v (.int .i64 y)]))], 3, M2, 77, ⟨fun _ => none, none, fun _ => none⟩⟩ : St), (Wk.mk' id (by repeat' constructor) (by repeat' constructor) (injOK_id _) rfl rfl rfl), rfl, rfl, fun m => ?_⟩
        repeat (first | refine VIf.tt ?_ | refine VIf.ff ?_)
        refine VFact.mk ?_ trivial
        have ht := of_decide_eq_true ht
        have : sideB ps (x, y) k = false := decide_eq_false (Int.not_le.2 ht)
        simp [hasB, show ps.length ≠ 1 by omega, show ps.length ≠ 2 by omega, all_false hk this]
      · have ht := of_decide_eq_false ht
        exact ⟨(), stepI hz (decide_eq_true (Int.not_lt.1 ht)), (Wk.mk' id (by repeat' constructor) (by repeat' constructor) (injOK_id _) rfl rfl rfl)⟩
    · rintro s m hz
      repeat (first | refine VIf.tt ?_ | refine VIf.ff ?_)
      refine VFact.mk ?_ trivial
      have : (List.range ps.length).all (sideB ps (x, y)) = true := all_true fun j hj => hz j (by simpa [sidesL] using hj)
      simp [hasB, show ps.length ≠ 1 by omega, show ps.length ≠ 2 by omega, this]
end Go.Proofs.Ytaobaeiohjgdcaa
