/- Contracts: cut.Within, and the reference's. -/
import Derived.Test.YtaobaeiohjgdcaaVr
import Derived.Test.YtaobaeiohjgdcaaC12
namespace Go.Proofs.Ytaobaeiohjgdcaa
open Go Go.V Go.RowKit
theorem len_eq (a b : Nat) : ((a : Int) == (b : Int)) = decide (a = b) := by rw [Bool.eq_iff_iff]; simp; omega
theorem injOK_one (r : Nat → Nat) (i : Nat) (e : Option OE) : injOK r [(i, e)] := ⟨fun j hj => by simp at hj, trivial⟩
theorem take_filter {α : Type} (d : α) (g : α → Bool) (l : List α) {i : Nat} (h : i < l.length) : (l.take (i + 1)).filter g = (l.take i).filter g ++ (if g (l.getD i d) = true then [l.getD i d] else []) := by
  rw [List.take_add_one, List.filter_append]
  simp [h, List.filter_cons]
theorem cellsP_snoc (l : List Pt) (p : Pt) : cellsP (l ++ [p]) = cellsP l ++ [.int .i64 p.1, .int .i64 p.2] := by simp [cellsP]
theorem flt_le {α : Type} (g : α → Bool) (l : List α) (i : Nat) : ((l.take i).filter g).length ≤ l.length := Nat.le_trans (List.length_filter_le _ _) (by rw [List.length_take]; omega)
theorem valid_len {ps : List Pt} (h : validB ps = true) : 1 ≤ ps.length ∧ ps.length ≤ 64 := by simp only [validB, Bool.and_eq_true, decide_eq_true_eq] at h; exact h.1.1
theorem allC_place {ps : List Pt} (h : allC ps) {i : Nat} (hi : i < ps.length) : placeB (gp ps i) = true := by
  simp only [placeB, Bool.and_eq_true]; exact ⟨isCb_iff.2 (h i hi).1, isCb_iff.2 (h i hi).2⟩
theorem isC_i64 {x : Int} (h : isC x) : i64r x := by unfold isC i64r at *; omega
theorem corners_fn (v w : Value) (ps qs : List Pt) (M : Mem) (hv : Pts M v ps) (hw : Pts M w qs) (hC : allC ps) (hl : ps.length ≤ 100000) (hq : validB qs = true) : V.Fn Try.prog 109 [v, w] M fun rs M' => ∃ u, rs = [u] ∧ Pts M' u (ps.filter (hasB qs)) := by
  obtain ⟨ad, c, rfl⟩ := hv.shape
  obtain ⟨_, hm, hrd⟩ := hv.cellsOf
  unfold maxLen at hm
  refine Fn.of_vc cxOK Try.func109 rfl rfl rfl ?_
  have hq64 : i64P qs := fun i hi => ⟨isC_i64 (allC_of hq i hi).1, isC_i64 (allC_of hq i hi).2⟩
  repeat (first | refine VIf.tt ?_ | refine VIf.ff ?_)
  refine VCode.loop cxOK (Nat × Mem × List Pt)
    (fun s => ⟨[(0, .v (.slice ad ps.length c)), (1, .v w), (5, .row 0), (10, .v (.slice ad ps.length c)), (11, .v (.int .i64 ps.length)), (12, .v (.int .i64 s.1))], [(0, some (.row 39 2 s.2.2.length (cellsP s.2.2)))], 1, s.2.1, 29, ⟨fun _ => none, none, fun _ => none⟩⟩)
    (fun s => M.le s.2.1 ∧ s.1 ≤ ps.length ∧ s.2.2 = (ps.take s.1).filter (hasB qs)) (fun s => ps.length - s.1) (0, M, []) ⟨Mem.le_refl _, Nat.zero_le _, by simp⟩ ?_ ?_
  · exact Wk.nil 5 39 2 rfl (Wk.mk' id (by repeat' constructor) (by repeat' constructor) (injOK_id _) rfl rfl rfl)
  rintro ⟨i, M1, F⟩ ⟨hM1, hi, hF⟩ m
  have hM1 : M.le M1 := hM1
  have hi : i ≤ ps.length := hi
  have hF : F = (ps.take i).filter (hasB qs) := hF
  have hFl : F.length ≤ ps.length := by rw [hF]; exact flt_le _ _ _
  repeat (first | refine VIf.tt ?_ | refine VIf.ff ?_)
  refine VIf.mk (fun hlt => ?_) (fun hge => ?_)
  · have hlt : i < ps.length := lt_of_dec hlt
    obtain ⟨ad', rfl, hpi⟩ := hrd M1 hM1 i hlt
    have hs := take_filter (0, 0) (hasB qs) ps hlt
    rw [← hF] at hs
    repeat (first | refine VIf.tt ?_ | refine VIf.ff ?_)
    refine VIdx.mk ad' i rfl rfl hlt ?_
    repeat (first | refine VIf.tt ?_ | refine VIf.ff ?_)
    refine VReads.mk [.int .i64 (gp ps i).1, .int .i64 (gp ps i).2] rfl hpi ?_
    repeat (first | refine VIf.tt ?_ | refine VIf.ff ?_)
    refine VFn.mk _ (Has_fn w qs (gp ps i).1 (gp ps i).2 M1 (hw.le hM1) hq64 (isC_i64 (hC i hlt).1) (isC_i64 (hC i hlt).2)) ?_
    rintro rs M2 hM2 rfl
    rw [hq, allC_place hC hlt]
    repeat (first | refine VIf.tt ?_ | refine VIf.ff ?_)
    refine VIf.mk (fun hb => ?_) (fun hb => ?_)
    · repeat (first | refine VIf.tt ?_ | refine VIf.ff ?_)
      refine VFact.mk (by simp only; omega) ?_
      repeat (first | refine VIf.tt ?_ | refine VIf.ff ?_)
      refine VArith.ok (by first | omega | (simp only; omega)) (by first | omega | (simp only; omega)) ?_
      rw [show hasB qs (ps.getD i (0, 0)) = true from hb, if_pos rfl] at hs
      exact ⟨(i + 1, M2, F ++ [gp ps i]), ⟨hM1.trans hM2, hlt, hs.symm⟩, (by first | omega | (simp only; omega)), Wk.mk' (fun _ => 3) (by repeat' constructor) ⟨⟨rfl, rfl, rfl, by simp, cellsP_snoc F _⟩, trivial⟩ (injOK_one _ _ _) rfl rfl rfl⟩
    · repeat (first | refine VIf.tt ?_ | refine VIf.ff ?_)
      refine VArith.ok (by first | omega | (simp only; omega)) (by first | omega | (simp only; omega)) ?_
      rw [show hasB qs (ps.getD i (0, 0)) = false from hb] at hs
      exact ⟨(i + 1, M2, F), ⟨hM1.trans hM2, hlt, by simpa using hs.symm⟩, (by first | omega | (simp only; omega)), (Wk.mk' id (by repeat' constructor) (by repeat' constructor) (injOK_id _) rfl rfl rfl)⟩
  · have : i = ps.length := by have := ge_of_dec hge; omega
    subst this
    repeat (first | refine VIf.tt ?_ | refine VIf.ff ?_)
    refine VFz.mk fun x B M' hle hx => ?_
    repeat (first | refine VIf.tt ?_ | refine VIf.ff ?_)
    refine VFact.mk ⟨x, rfl, ?_⟩ trivial
    rw [List.take_length] at hF
    rw [← hF]; exact hx
theorem Within_fn (v w : Value) (ps qs : List Pt) (M : Mem) (hv : Pts M v ps) (hw : Pts M w qs) (hp64 : i64P ps) (hq64 : i64P qs) : V.Fn Try.prog 85 [v, w] M fun rs _ => rs = if (validB ps && validB qs) = true then [.bool (withinB ps qs), .int .i64 0] else [.bool false, .int .i64 1] := by
  obtain ⟨ad, c, rfl⟩ := hv.shape
  refine Fn.of_vc cxOK Try.func85 rfl rfl rfl ?_
  repeat (first | refine VIf.tt ?_ | refine VIf.ff ?_)
  refine VFn.mk _ (Valid_fn _ ps M hv hp64) ?_
  rintro rs M1 hM1 rfl
  repeat (first | refine VIf.tt ?_ | refine VIf.ff ?_)
  refine VIf.mk (fun h1 => ?_) (fun h1 => ?_)
  · repeat (first | refine VIf.tt ?_ | refine VIf.ff ?_)
    refine VFact.mk ?_ trivial
    rw [bn1 h1]; rfl
  repeat (first | refine VIf.tt ?_ | refine VIf.ff ?_)
  refine VFn.mk _ (Valid_fn _ qs M1 (hw.le hM1) hq64) ?_
  rintro rs M2 hM2 rfl
  repeat (first | refine VIf.tt ?_ | refine VIf.ff ?_)
  refine VIf.mk (fun h2 => ?_) (fun h2 => ?_)
  · repeat (first | refine VIf.tt ?_ | refine VIf.ff ?_)
    refine VFact.mk ?_ trivial
    rw [bn1 h2, Bool.and_false]; rfl
  have h1 := bn2 h1
  have h2 := bn2 h2
  have hl := valid_len h1
  repeat (first | refine VIf.tt ?_ | refine VIf.ff ?_)
  refine VFn.mk _ (corners_fn _ w ps qs M2 (hv.le (hM1.trans hM2)) (hw.le (hM1.trans hM2)) (allC_of h1) (by omega) h2) ?_
  rintro rs M3 hM3 ⟨u, rfl, hu⟩
  obtain ⟨ud, uc, rfl⟩ := hu.shape
  repeat (first | refine VIf.tt ?_ | refine VIf.ff ?_)
  refine VFact.mk ?_ trivial
  rw [h1, h2]
  show [Value.bool _, _] = [Value.bool _, _]
  rw [withinB, ← filter_len (hasB qs) ps, ← len_eq]
  try rfl
theorem CornersR_fn (v w : Value) (ps qs : List Pt) (M : Mem) (hv : Pts M v ps) (hw : Pts M w qs) (hC : allC ps) (hl : ps.length ≤ 100000) (hq : allC qs) : V.Fn Try.prog 117 [v, w] M fun rs M' => ∃ u, rs = [u] ∧ Pts M' u (ps.filter (hasB qs)) := by
  obtain ⟨ad, c, rfl⟩ := hv.shape
  obtain ⟨_, hm, hrd⟩ := hv.cellsOf
  unfold maxLen at hm
  refine Fn.of_vc cxOK Try.func117 rfl rfl rfl ?_
  repeat (first | refine VIf.tt ?_ | refine VIf.ff ?_)
  refine VCode.loop cxOK (Nat × List Pt)
    (fun s => ⟨[(0, .v (.slice ad ps.length c)), (1, .v w), (5, .row 0), (6, .v (.int .i64 s.1))], [(0, some (.row 39 2 s.2.length (cellsP s.2)))], 1, M, 29, ⟨fun _ => none, none, fun _ => none⟩⟩)
    (fun s => s.1 ≤ ps.length ∧ s.2 = (ps.take s.1).filter (hasB qs)) (fun s => ps.length - s.1) (0, []) ⟨Nat.zero_le _, by simp⟩ ?_ ?_
  · exact Wk.nil 5 39 2 rfl (Wk.mk' id (by repeat' constructor) (by repeat' constructor) (injOK_id _) rfl rfl rfl)
  rintro ⟨i, F⟩ ⟨hi, hF⟩ m
  have hi : i ≤ ps.length := hi
  have hF : F = (ps.take i).filter (hasB qs) := hF
  have hFl : F.length ≤ ps.length := by rw [hF]; exact flt_le _ _ _
  repeat (first | refine VIf.tt ?_ | refine VIf.ff ?_)
  refine VIf.mk (fun hlt => ?_) (fun hge => ?_)
  · have hlt : i < ps.length := lt_of_dec hlt
    obtain ⟨ad', rfl, hpi⟩ := hrd M (Mem.le_refl _) i hlt
    have hs := take_filter (0, 0) (hasB qs) ps hlt
    rw [← hF] at hs
    repeat (first | refine VIf.tt ?_ | refine VIf.ff ?_)
    refine VIdx.mk ad' i rfl rfl hlt ?_
    repeat (first | refine VIf.tt ?_ | refine VIf.ff ?_)
    refine VReads.mk [.int .i64 (gp ps i).1, .int .i64 (gp ps i).2] rfl hpi ?_
    repeat (first | refine VIf.tt ?_ | refine VIf.ff ?_)
    refine VFn.p (Inside_fn w qs (gp ps i).1 (gp ps i).2 M hw hq (hC i hlt).1 (hC i hlt).2) ?_
    repeat (first | refine VIf.tt ?_ | refine VIf.ff ?_)
    refine VIf.mk (fun hb => ?_) (fun hb => ?_)
    · repeat (first | refine VIf.tt ?_ | refine VIf.ff ?_)
      refine VIdx.mk ad' i rfl rfl hlt ?_
      repeat (first | refine VIf.tt ?_ | refine VIf.ff ?_)
      refine VReads.mk [.int .i64 (gp ps i).1, .int .i64 (gp ps i).2] rfl hpi ?_
      repeat (first | refine VIf.tt ?_ | refine VIf.ff ?_)
      refine VFact.mk (by simp only; omega) ?_
      repeat (first | refine VIf.tt ?_ | refine VIf.ff ?_)
      refine VArith.ok (by first | omega | (simp only; omega)) (by first | omega | (simp only; omega)) ?_
      rw [show hasB qs (ps.getD i (0, 0)) = true from hb, if_pos rfl] at hs
      exact ⟨(i + 1, F ++ [gp ps i]), ⟨hlt, hs.symm⟩, (by first | omega | (simp only; omega)), Wk.mk' (fun _ => 2) (by repeat' constructor) ⟨⟨rfl, rfl, rfl, by simp, cellsP_snoc F _⟩, trivial⟩ (injOK_one _ _ _) rfl rfl rfl⟩
    · repeat (first | refine VIf.tt ?_ | refine VIf.ff ?_)
      refine VArith.ok (by first | omega | (simp only; omega)) (by first | omega | (simp only; omega)) ?_
      rw [show hasB qs (ps.getD i (0, 0)) = false from hb] at hs
      exact ⟨(i + 1, F), ⟨hlt, by simpa using hs.symm⟩, (by first | omega | (simp only; omega)), (Wk.mk' id (by repeat' constructor) (by repeat' constructor) (injOK_id _) rfl rfl rfl)⟩
  · have : i = ps.length := by have := ge_of_dec hge; omega
    subst this
    repeat (first | refine VIf.tt ?_ | refine VIf.ff ?_)
    refine VFz.mk fun x B M' hle hx => ?_
    repeat (first | refine VIf.tt ?_ | refine VIf.ff ?_)
    refine VFact.mk ⟨x, rfl, ?_⟩ trivial
    rw [List.take_length] at hF
    rw [← hF]; exact hx
theorem Lies_fn (v w : Value) (ps qs : List Pt) (M : Mem) (hv : Pts M v ps) (hw : Pts M w qs) (hC : allC ps) (hl : ps.length ≤ 100000) (hq : allC qs) : V.Fn Try.prog 110 [v, w] M fun rs _ => rs = [.bool (withinB ps qs)] := by
  obtain ⟨ad, c, rfl⟩ := hv.shape
  refine Fn.of_vc cxOK Try.func110 rfl rfl rfl ?_
  repeat (first | refine VIf.tt ?_ | refine VIf.ff ?_)
  refine VFn.mk _ (CornersR_fn _ w ps qs M hv hw hC hl hq) ?_
  rintro rs M3 hM3 ⟨u, rfl, hu⟩
  obtain ⟨ud, uc, rfl⟩ := hu.shape
  repeat (first | refine VIf.tt ?_ | refine VIf.ff ?_)
  refine VFact.mk ?_ trivial
  rw [withinB, ← filter_len (hasB qs) ps, ← len_eq]
end Go.Proofs.Ytaobaeiohjgdcaa
