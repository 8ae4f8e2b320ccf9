/- Contracts: hull.Hull of one place; package mink's Shift: the joins. -/
import Derived.Test.YtaobaeiohjgdcaaC19
import Derived.Test.YtaobaeiohjgdcaaS2
namespace Go.Proofs.Ytaobaeiohjgdcaa
open Go Go.V Go.RowKit
theorem sort1_fn (ad : Option Addr) (c f : Nat) (M : Mem) : FnP Try.prog 96 [.slice ad 1 c, .func (.func f) #[] #[]] M [] := by
  refine Fn.of_vc cxOK Try.func96 rfl rfl rfl ?_
  repeat (first | refine VIf.tt ?_ | refine VIf.ff ?_)
  refine VArith.ok (by first | omega | (simp only; omega)) (by first | omega | (simp only; omega)) ?_
  repeat (first | refine VIf.tt ?_ | refine VIf.ff ?_)
  refine VFn.p (Len1_fn _) ?_
  repeat (first | refine VIf.tt ?_ | refine VIf.ff ?_)
  refine VFn.p (pdq1_fn _ _ _ _) ?_
  repeat (first | refine VIf.tt ?_ | refine VIf.ff ?_)
  exact VFact.mk ⟨rfl, rfl⟩ trivial
theorem compact1_fn (ad : Option Addr) (c : Nat) (M : Mem) : FnP Try.prog 98 [.slice ad 1 c] M [.slice ad 1 c] := by
  refine Fn.of_vc cxOK Try.func98 rfl rfl rfl ?_
  repeat (first | refine VIf.tt ?_ | refine VIf.ff ?_)
  exact VFact.mk ⟨rfl, rfl⟩ trivial
theorem around1_fn (v : Value) (p : Pt) (M : Mem) (hv : Pts M v [p]) : V.Fn Try.prog 64 [v] M fun rs M' => ∃ u, rs = [u] ∧ Pts M' u [p] := by
  refine Fn.of_vc cxOK Try.func64 rfl rfl rfl ?_
  repeat (first | refine VIf.tt ?_ | refine VIf.ff ?_)
  refine VFn.mk _ (Clone_fn v [p] M hv (by simp) (by simp)) ?_
  rintro rs M1 hM1 ⟨u, rfl, hu⟩
  obtain ⟨ud, uc, rfl⟩ := hu.shape
  repeat (first | refine VIf.tt ?_ | refine VIf.ff ?_)
  refine VFn.p (sort1_fn _ _ _ _) ?_
  repeat (first | refine VIf.tt ?_ | refine VIf.ff ?_)
  refine VFn.p (compact1_fn _ _ _) ?_
  repeat (first | refine VIf.tt ?_ | refine VIf.ff ?_)
  exact VFact.mk ⟨_, rfl, hu⟩ trivial
theorem HullOne_fn (v : Value) (p : Pt) (M : Mem) (hv : Pts M v [p]) (h1 : i64r p.1) (h2 : i64r p.2) : V.Fn Try.prog 29 [v] M fun rs M' => if placeB p = true then ∃ u, rs = [u, .int .i64 0] ∧ Pts M' u [p] else rs = [.slice none 0 0, .int .i64 1] := by
  obtain ⟨ad, c, rfl⟩ := hv.shape
  refine Fn.of_vc cxOK Try.func29 rfl rfl rfl ?_
  repeat (first | refine VIf.tt ?_ | refine VIf.ff ?_)
  refine VFn.mk _ (ContainsP_fn _ [p] _ (fun p => !placeB p) M hv fun i hi M' => ?_) ?_
  · have : i = 0 := by simp at hi; omega
    subst this
    exact Hull1_fn p h1 h2 M'
  rintro rs M1 hM1 rfl
  repeat (first | refine VIf.tt ?_ | refine VIf.ff ?_)
  refine VIf.mk (fun h => ?_) (fun h => ?_)
  · repeat (first | refine VIf.tt ?_ | refine VIf.ff ?_)
    refine VFact.mk ?_ trivial
    have h : placeB p = false := by simpa using h
    simp only [h, Bool.false_eq_true, if_false]
  · have h : placeB p = true := by simpa using h
    repeat (first | refine VIf.tt ?_ | refine VIf.ff ?_)
    refine VFn.mk _ (around1_fn _ p M1 (hv.le hM1)) ?_
    rintro rs M2 hM2 ⟨u, rfl, hu⟩
    obtain ⟨ud, uc, rfl⟩ := hu.shape
    repeat (first | refine VIf.tt ?_ | refine VIf.ff ?_)
    refine VFact.mk ?_ trivial
    simp only [h, if_true]
    exact ⟨_, rfl, hu⟩
theorem minkPlace_fn (p : Pt) (M : Mem) (h1 : i64r p.1) (h2 : i64r p.2) : V.Fn Try.prog 77 [ptv p] M fun rs _ => rs = [.bool (placeB p)] := by
  refine Fn.of_vc cxOK Try.func77 rfl rfl rfl ?_
  repeat (first | refine VIf.tt ?_ | refine VIf.ff ?_)
  refine VFz.mk fun x B M1 hle hx => ?_
  repeat (first | refine VIf.tt ?_ | refine VIf.ff ?_)
  refine VFn.mk _ (HullOne_fn x p M1 hx h1 h2) ?_
  rintro rs M2 hM2 hr
  by_cases hp : placeB p = true
  · rw [if_pos hp] at hr
    obtain ⟨u, rfl, hu⟩ := hr
    repeat (first | refine VIf.tt ?_ | refine VIf.ff ?_)
    refine VFact.mk ?_ trivial
    rw [hp]; rfl
  · rw [if_neg hp] at hr
    subst hr
    have hp : placeB p = false := by simpa using hp
    repeat (first | refine VIf.tt ?_ | refine VIf.ff ?_)
    refine VFact.mk ?_ trivial
    rw [hp]; rfl
theorem minkPoly1_fn (w : Value) (ps : List Pt) (M : Mem) (hv : Pts M w ps) (hi : i64P ps) : V.Fn Try.prog 104 [w] M fun rs _ => rs = [.bool (!validB ps)] := by
  refine Fn.of_vc cxOK Try.func104 rfl rfl rfl ?_
  repeat (first | refine VIf.tt ?_ | refine VIf.ff ?_)
  refine VFn.mk _ (Valid_fn w ps M hv hi) ?_
  rintro rs M1 hM1 rfl
  repeat (first | refine VIf.tt ?_ | refine VIf.ff ?_)
  exact VFact.mk rfl trivial
theorem minkPolys_fn (v : Value) (r : List (List Pt)) (M : Mem) (hv : RegV M v r) : V.Fn Try.prog 76 [v] M fun rs _ => rs = [.bool (r.all validB)] := by
  obtain ⟨ad, c, rfl⟩ := hv.shape
  refine Fn.of_vc cxOK Try.func76 rfl rfl rfl ?_
  repeat (first | refine VIf.tt ?_ | refine VIf.ff ?_)
  refine VFn.mk _ (ContainsR0_fn _ r _ (fun p => !validB p) M hv fun i _ M' _ w hw h64 => minkPoly1_fn w _ M' hw h64) ?_
  rintro rs M1 hM1 rfl
  repeat (first | refine VIf.tt ?_ | refine VIf.ff ?_)
  refine VFact.mk ?_ trivial
  show [Value.bool _] = [Value.bool _]
  rw [not_any]
theorem plus_fn (p q : Pt) (M : Mem) (h1 : isC p.1) (h2 : isC p.2) (h3 : isC q.1) (h4 : isC q.2) : FnP Try.prog 80 [ptv p, ptv q] M [ptv (p.1 + q.1, p.2 + q.2)] := by
  unfold isC at *
  refine Fn.of_vc cxOK Try.func80 rfl rfl rfl ?_
  repeat (first | refine VIf.tt ?_ | refine VIf.ff ?_)
  refine VArith.ok (by first | omega | (simp only; omega)) (by first | omega | (simp only; omega)) ?_
  repeat (first | refine VIf.tt ?_ | refine VIf.ff ?_)
  refine VArith.ok (by first | omega | (simp only; omega)) (by first | omega | (simp only; omega)) ?_
  repeat (first | refine VIf.tt ?_ | refine VIf.ff ?_)
  exact VFact.mk ⟨rfl, rfl⟩ trivial
theorem shift1_fn (p q : Pt) (B : Nat) (M : Mem) (hB : M B = some (.cells #[.int .i64 q.1, .int .i64 q.2] 39 (0, 0))) (h1 : isC p.1) (h2 : isC p.2) (h3 : isC q.1) (h4 : isC q.2) : FnP Try.prog 79 [ptv p, .pointer (some ⟨B, 0, none⟩)] M [ptv (p.1 + q.1, p.2 + q.2)] := by
  refine Fn.of_vc cxOK Try.func79 rfl rfl rfl ?_
  repeat (first | refine VIf.tt ?_ | refine VIf.ff ?_)
  refine VReads.mk [.int .i64 q.1, .int .i64 q.2] rfl (fun j v hj => cellAt hB j (by simpa using hj)) ?_
  repeat (first | refine VIf.tt ?_ | refine VIf.ff ?_)
  refine VFn.p (plus_fn p q M h1 h2 h3 h4) ?_
  repeat (first | refine VIf.tt ?_ | refine VIf.ff ?_)
  exact VFact.mk ⟨rfl, rfl⟩ trivial
def moveP (q : Pt) (ps : List Pt) : List Pt := ps.map fun p => (p.1 + q.1, p.2 + q.2)
theorem take_map (q : Pt) (ps : List Pt) {i : Nat} (h : i < ps.length) : moveP q (ps.take (i + 1)) = moveP q (ps.take i) ++ [((gp ps i).1 + q.1, (gp ps i).2 + q.2)] := by
  unfold moveP
  rw [List.take_add_one, List.map_append]
  simp [gp, h]
theorem each_fn (v : Value) (ps : List Pt) (q : Pt) (B : Nat) (M : Mem) (hv : Pts M v ps) (hB : M B = some (.cells #[.int .i64 q.1, .int .i64 q.2] 39 (0, 0))) (hC : allC ps) (hl : ps.length ≤ 100000) (h3 : isC q.1) (h4 : isC q.2) :
    V.Fn Try.prog 78 [v, .func (.func 79) #[] #[.pointer (some ⟨B, 0, none⟩)]] M fun rs M' => ∃ u, rs = [u] ∧ Pts M' u (moveP q ps) := by
  obtain ⟨ad, c, rfl⟩ := hv.shape
  obtain ⟨_, hm, hrd⟩ := hv.cellsOf
  unfold maxLen at hm
  refine Fn.of_vc cxOK Try.func78 rfl rfl rfl ?_
  repeat (first | refine VIf.tt ?_ | refine VIf.ff ?_)
  refine VCode.loop cxOK (Nat × List Pt)
    (fun s => ⟨[(1, .v (.func (.func 79) #[] #[.pointer (some ⟨B, 0, none⟩)])), (5, .row 0), (8, .v (.slice ad ps.length c)), (9, .v (.int .i64 ps.length)), (10, .v (.int .i64 s.1))], [(0, some (.row 39 2 s.2.length (cellsP s.2)))], 1, M, 22, ⟨fun _ => none, none, fun _ => none⟩⟩)
    (fun s => s.1 ≤ ps.length ∧ s.2 = moveP q (ps.take s.1)) (fun s => ps.length - s.1) (0, []) ⟨Nat.zero_le _, by simp [moveP]⟩ ?_ ?_
  · exact Wk.nil 5 39 2 rfl (Wk.mk' id (by repeat' constructor) (by repeat' constructor) (injOK_id _) rfl rfl rfl)
  rintro ⟨i, F⟩ ⟨hi, hF⟩ m
  have hi : i ≤ ps.length := hi
  have hF : F = moveP q (ps.take i) := hF
  have hFl : F.length ≤ ps.length := by rw [hF, moveP, List.length_map, List.length_take]; omega
  repeat (first | refine VIf.tt ?_ | refine VIf.ff ?_)
  refine VIf.mk (fun hlt => ?_) (fun hge => ?_)
  · have hlt : i < ps.length := lt_of_dec hlt
    obtain ⟨ad', ead, hpi⟩ := hrd M (Mem.le_refl _) i hlt
    repeat (first | refine VIf.tt ?_ | refine VIf.ff ?_)
    refine VIdx.mk ad' i ead rfl hlt ?_
    repeat (first | refine VIf.tt ?_ | refine VIf.ff ?_)
    refine VReads.mk [.int .i64 (gp ps i).1, .int .i64 (gp ps i).2] rfl hpi ?_
    repeat (first | refine VIf.tt ?_ | refine VIf.ff ?_)
    refine VFn.p (shift1_fn (gp ps i) q B M hB (hC i hlt).1 (hC i hlt).2 h3 h4) ?_
    repeat (first | refine VIf.tt ?_ | refine VIf.ff ?_)
    refine VFact.mk (by simp only; omega) ?_
    repeat (first | refine VIf.tt ?_ | refine VIf.ff ?_)
    refine VArith.ok (by first | omega | (simp only; omega)) (by first | omega | (simp only; omega)) ?_
    exact ⟨(i + 1, F ++ [((gp ps i).1 + q.1, (gp ps i).2 + q.2)]), ⟨hlt, by rw [hF]; exact (take_map q ps hlt).symm⟩, (by first | omega | (simp only; omega)), Wk.mk' (fun _ => 3) (by repeat' constructor) ⟨⟨rfl, rfl, rfl, by simp, cellsP_snoc F _⟩, trivial⟩ (injOK_one _ _ _) rfl rfl rfl⟩
  · have : i = ps.length := by have := ge_of_dec hge; omega
    subst this
    repeat (first | refine VIf.tt ?_ | refine VIf.ff ?_)
    refine VFz.mk fun x B M' hle hx => ?_
    repeat (first | refine VIf.tt ?_ | refine VIf.ff ?_)
    refine VFact.mk ⟨x, rfl, ?_⟩ trivial
    rw [List.take_length] at hF
    rw [← hF]; exact hx
/-- What Shift comes to. -/
def shiftB (ps : List Pt) (q : Pt) : Option (List Pt) := if (validB ps && placeB q) = true then (if validB (moveP q ps) = true then some (moveP q ps) else none) else none
theorem Shift_fn (v : Value) (ps : List Pt) (q : Pt) (M : Mem) (hv : Pts M v ps) (h64 : i64P ps) (hq1 : i64r q.1) (hq2 : i64r q.2) : V.Fn Try.prog 44 [v, ptv q] M fun rs M' =>
    (∃ e : Int, e ≠ 0 ∧ rs = [.slice none 0 0, .int .i64 e]) ∨ (∃ u, rs = [u, .int .i64 0] ∧ validB ps = true ∧ validB (moveP q ps) = true ∧ Pts M' u (moveP q ps)) := by
  obtain ⟨ad, c, rfl⟩ := hv.shape
  refine Fn.of_vc cxOK Try.func44 rfl rfl rfl ?_
  repeat (first | refine VIf.tt ?_ | refine VIf.ff ?_)
  refine VFz.mk fun x B M1 hle hx => ?_
  repeat (first | refine VIf.tt ?_ | refine VIf.ff ?_)
  refine VFn.mk _ (minkPolys_fn x [ps] M1 (RegV.of1 hx (hv.le hle) h64)) ?_
  rintro rs M2 hM2 rfl
  repeat (first | refine VIf.tt ?_ | refine VIf.ff ?_)
  refine VIf.mk (fun h => ?_) (fun h => ?_)
  · repeat (first | refine VIf.tt ?_ | refine VIf.ff ?_)
    exact VFact.mk (.inl ⟨1, by decide, rfl⟩) trivial
  have hV : validB ps = true := by simpa using h
  repeat (first | refine VIf.tt ?_ | refine VIf.ff ?_)
  refine VFn.mk _ (minkPlace_fn q M2 hq1 hq2) ?_
  rintro rs M3 hM3 rfl
  repeat (first | refine VIf.tt ?_ | refine VIf.ff ?_)
  refine VIf.mk (fun h => ?_) (fun h => ?_)
  · repeat (first | refine VIf.tt ?_ | refine VIf.ff ?_)
    exact VFact.mk (.inl ⟨1, by decide, rfl⟩) trivial
  have hP : placeB q = true := bn2 h
  have hqC : isC q.1 ∧ isC q.2 := by
    simp only [placeB, Bool.and_eq_true] at hP
    exact ⟨isCb_iff.1 hP.1, isCb_iff.1 hP.2⟩
  have hl := valid_len hV
  repeat (first | refine VIf.tt ?_ | refine VIf.ff ?_)
  refine VOwn.frz ?_
  repeat (first | refine VIf.tt ?_ | refine VIf.ff ?_)
  refine VFzB.mk fun x2 B2 M4 hM4 hB => ?_
  have m4 : M.le M4 := ((hle.trans hM2).trans hM3).trans hM4
  repeat (first | refine VIf.tt ?_ | refine VIf.ff ?_)
  refine VFn.mk _ (each_fn _ ps q B2 M4 (hv.le m4) hB (allC_of hV) (by omega) hqC.1 hqC.2) ?_
  rintro rs M5 hM5 ⟨u, rfl, hu⟩
  have hu64 : i64P (moveP q ps) := fun i hi => by
    have hi' : i < ps.length := by simpa [moveP] using hi
    have hc := allC_of hV i hi'
    have e : gp (moveP q ps) i = ((gp ps i).1 + q.1, (gp ps i).2 + q.2) := by simp [gp, moveP, hi']
    rw [e]
    unfold isC i64r at *
    simp only
    omega
  obtain ⟨ud, uc, rfl⟩ := hu.shape
  repeat (first | refine VIf.tt ?_ | refine VIf.ff ?_)
  refine VFz.mk fun x3 B3 M6 hM6 hx3 => ?_
  repeat (first | refine VIf.tt ?_ | refine VIf.ff ?_)
  refine VFn.mk _ (minkPolys_fn x3 [moveP q ps] M6 (RegV.of1 hx3 (hu.le hM6) hu64)) ?_
  rintro rs M7 hM7 rfl
  repeat (first | refine VIf.tt ?_ | refine VIf.ff ?_)
  refine VIf.mk (fun h => ?_) (fun h => ?_)
  · repeat (first | refine VIf.tt ?_ | refine VIf.ff ?_)
    exact VFact.mk (.inl ⟨3, by decide, rfl⟩) trivial
  · repeat (first | refine VIf.tt ?_ | refine VIf.ff ?_)
    refine VFact.mk (.inr ⟨_, rfl, hV, by simpa using h, hu.le (hM6.trans hM7)⟩) trivial
end Go.Proofs.Ytaobaeiohjgdcaa
