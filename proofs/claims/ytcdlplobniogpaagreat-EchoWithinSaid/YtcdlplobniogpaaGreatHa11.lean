/- Contracts of the reference of layer 7: left, pieces, Without. -/
import Derived.Test.YtcdlplobniogpaaGreatHa10
import Derived.Shelf.SlIterI.Nil
import Derived.Shelf.SortM.Plain
import Derived.Shelf.SortM.SortNone
set_option linter.unusedVariables false
set_option linter.unusedSimpArgs false
namespace Go.Proofs.YtcdlplobniogpaaGreat
open Go Go.V Go.RowKit
theorem leftL_take (l : List (List Pt)) (A B C : Int) {i : Nat} (h : i < l.length) : leftL (l.take (i + 1)) A B C = leftL (l.take i) A B C ++ optL (cutA (gr l i) A B C) := flatR_take [] (fun p => optL (cutA p A B C)) l h
set_option maxHeartbeats 2000000 in
theorem left07_row (v : Value) (l : List (List Pt)) (A B C : Int) (M : Mem) (hv : RegV M v l) (hV : ∀ p ∈ l, validB p = true) (hl : l.length ≤ 100000) (hH : halfB A B C = true) :
  FnRow Tryz.prog 189 [v, .agg #[.int .i64 A, .int .i64 B, .int .i64 C]] M 64 1 fun n xs M' => n = xs.length ∧ PlsV M' xs (leftL l A B C) := by
 obtain ⟨ad, c, rfl, hm, hrd⟩ := hv.get
 refine FnRow.of_vc cxOK Tryz.func189 rfl rfl rfl ?_
 refine VCode.loop cxOK (Nat × List Value × Mem) (fun (⟨i, xs, M1⟩ : Nat × List Value × Mem) => ⟨[(0, .v (.slice ad l.length c)), (3, .box 0 0), (5, .row 1), (6, .v (.int .i64 i))], [(0, some (.box 164 [.v (.int .i64 A), .v (.int .i64 B), .v (.int .i64 C)])), (1, some (.row 64 1 xs.length xs))], 2, M1, 32, ⟨fun _ => none, none, fun _ => none⟩⟩)
  (fun (⟨i, xs, M1⟩ : Nat × List Value × Mem) => (M.le M1 ∧ i ≤ l.length) ∧ PlsV M1 xs (leftL (l.take i) A B C)) (fun (⟨i, _, _⟩ : Nat × List Value × Mem) => l.length - i) (0, [], M) ⟨⟨Mem.le_refl _, Nat.zero_le _⟩, PlsV.nil _⟩ (Wk.nil 5 64 1 rfl (Wk.mk' id (by repeat' constructor) (by repeat' constructor) (injOK_id _) rfl rfl rfl)) ?_
 rintro ⟨i, xs, M1⟩ ⟨⟨hM1, hi⟩, hp⟩ m
 have hxl : xs.length ≤ 100000 := by
  have := leftL_len (l.take i) A B C
  rw [hp.1]; rw [List.length_take] at this; omega
 refine VIf.mk (fun hlt => ?_) (fun hge => ?_)
 rotate_left
 ·have : i = l.length := by have := ge_of_dec hge; omega
  subst this
  rw [List.take_length] at hp
  exact VFact.mk ⟨rfl, hp⟩ trivial
 have hlt : i < l.length := lt_of_dec hlt
 obtain ⟨a1, w1, e1, p1, q1, c1⟩ := hrd M1 hM1 i hlt
 have hV1 := val_gr hV hlt
 have hst := leftL_take l A B C hlt
 have p1 : Pts M1 w1 (gr l i) := p1
 have q1 : i64P (gr l i) := q1
 generalize gr l i = p at *
 refine VDraw.go (by kernel_rfl) ?_
 refine VIdx.mk a1 i e1 rfl hlt ?_
 refine VRead.mk w1 c1 ?_
 have F := Cut04_fn w1 p A B C M1 p1 q1
 rw [hV1, hH] at F
 simp only [Bool.and_self, if_true] at F
 refine VFn.mk _ F ?_
 rintro rs M2 hM2 ⟨u, rfl, hu⟩
 obtain ⟨ud, uc, rfl⟩ := hu.shape
 refine VIf.mk (fun hc => ?_) (fun hc => ?_)
 ·have hne : cutA p A B C ≠ [] := fun e => by rw [e] at hc; exact absurd hc (by decide)
  have hb : (xs.length + 1) * 24 ≤ 140737488355328 := by omega
  refine VFact.mk hb ?_
  refine VArith.ok (by first | omega | (simp only; omega)) (by first | omega | (simp only; omega)) ?_
  refine ⟨(i + 1, xs ++ [.slice ud (arC (cutA p A B C)).length uc], M2), ⟨⟨hM1.trans hM2, hlt⟩, ?_⟩, (by first | omega | (simp only; omega)), Wk.mk' (fun k => if k = 1 then 3 else k) (by repeat' constructor) ⟨⟨rfl, by repeat' constructor⟩, ⟨rfl, ⟨rfl, rfl, ?_, ?_⟩⟩, trivial⟩ (by simp [injOK]) rfl rfl rfl⟩
  ·rw [hst]
   unfold optL
   rw [if_neg hne]
   exact (hp.le hM2).snoc hu (valid_64 (arC_valid hne (cut_place hV1 A B C)))
  ·rw [List.length_append]; rfl
  ·rfl
 ·have he : cutA p A B C = [] := List.eq_nil_of_length_eq_zero (by have := of_decide_eq_false hc; omega)
  refine VArith.ok (by first | omega | (simp only; omega)) (by first | omega | (simp only; omega)) ?_
  refine ⟨(i + 1, xs, M2), ⟨⟨hM1.trans hM2, hlt⟩, ?_⟩, (by first | omega | (simp only; omega)), (Wk.mk' id (by repeat' constructor) (by repeat' constructor) (injOK_id _) rfl rfl rfl)⟩
  rw [hst, he]
  unfold optL
  simp only [if_true, List.append_nil]
  exact hp.le hM2
theorem left07_fn (v : Value) (l : List (List Pt)) (A B C : Int) (M : Mem) (hv : RegV M v l) (hV : ∀ p ∈ l, validB p = true) (hl : l.length ≤ 100000) (hH : halfB A B C = true) :
  V.Fn Tryz.prog 189 [v, .agg #[.int .i64 A, .int .i64 B, .int .i64 C]] M fun rs M' => ∃ u, rs = [u] ∧ RegV M' u (leftL l A B C) :=
 (FnRow.fn (left07_row v l A B C M hv hV hl hH)).mono fun rs M' _ ⟨u, n, xs, M1, e1, h1, h2, h3, h4⟩ => ⟨u, e1, RegV.of' h2 (by rw [h3, h4.1]) (h4.le h1)⟩
theorem PlsV.app {M : Mem} {xs ys : List Value} {qs rs : List (List Pt)} (h : PlsV M xs qs) (k : PlsV M ys rs) : PlsV M (xs ++ ys) (qs ++ rs) := by
 refine ⟨by simp [h.1, k.1], fun i y p h1 h2 => ?_⟩
 rcases Nat.lt_or_ge i xs.length with hi | hi
 ·rw [List.getElem?_append_left hi] at h1
  rw [List.getElem?_append_left (by rw [← h.1]; exact hi)] at h2
  exact h.2 i y p h1 h2
 ·rw [List.getElem?_append_right hi] at h1
  rw [List.getElem?_append_right (by rw [← h.1]; exact hi), ← h.1] at h2
  exact k.2 _ y p h1 h2
set_option maxRecDepth 20000 in
set_option maxHeartbeats 4000000 in
theorem pieces07_fn (w : Value) (p : List Pt) (lo hi : Pt) (M : Mem) (hw : Pts M w p) (hV : validB p = true) (h2 : placeB lo = true) (h3 : placeB hi = true) :
  V.Fn Tryz.prog 163 [w, ptv lo, ptv hi] M fun rs M' => ∃ u, rs = [u] ∧ RegV M' u (outP lo hi p) := by
 obtain ⟨wd, wc, rfl⟩ := hw.shape
 have cl := place_C h2
 have ch := place_C h3
 unfold isC at cl ch
 have h1 : ∀ q ∈ [p], validB q = true := fun q hq => by rw [List.mem_singleton.1 hq]; exact hV
 have L1 := leftL_len [p] 1 0 (lo.1 - 1)
 have L2 := leftL_len [p] (-1) 0 (-(hi.1 + 1))
 have L3 := leftL_len [p] (-1) 0 (-lo.1)
 have L4 := leftL_len (leftL [p] (-1) 0 (-lo.1)) 1 0 hi.1
 have L5 := leftL_len (midL p lo hi) 0 1 (lo.2 - 1)
 have L6 := leftL_len (midL p lo hi) 0 (-1) (-(hi.2 + 1))
 have hVm : ∀ q ∈ leftL [p] (-1) 0 (-lo.1), validB q = true := leftL_valid h1 _ _ _
 have hVn : ∀ q ∈ midL p lo hi, validB q = true := leftL_valid hVm _ _ _
 have em : leftL (leftL [p] (-1) 0 (-lo.1)) 1 0 hi.1 = midL p lo hi := rfl
 have g1 : -hi.1 - 1 = -(hi.1 + 1) := by omega
 have g2 : -hi.2 - 1 = -(hi.2 + 1) := by omega
 simp only [List.length_cons, List.length_nil] at L1 L2 L3 L4
 rw [em] at L4
 refine Fn.of_vcode cxIOK Tryz.func163 rfl rfl rfl ?_
 refine VCode.st cxIOK ?_
 refine VCode.st cxIOK ?_
 refine VCode.frz [7] ?_
 refine VFz.mk fun l0 B0 M1 hM1 hl0 => ?_
 have hl0 : RegV M1 l0 [p] := RegV.of hl0 ((PlsV.nil M1).snoc (hw.le hM1) (valid_64 hV))
 obtain ⟨ld, lc, rfl⟩ := hl0.shape
 refine VCode.st cxIOK ?_
 refine VArith.ok (by first | omega | (simp only; omega)) (by first | omega | (simp only; omega)) ?_
 refine VOwn.own ?_
 refine VCall.ofRowM (left07_row _ [p] 1 0 (lo.1 - 1) M1 hl0 h1 (by simp) (half_x _ (by omega)).1) rfl ?_
 rintro n1 xs1 M2 hM2 ⟨rfl, P1⟩
 refine VCode.st cxIOK ?_
 refine VArith.ok (by first | omega | (simp only; omega)) (by first | omega | (simp only; omega)) ?_
 refine VArith.ok (by first | omega | (simp only; omega)) (by first | omega | (simp only; omega)) ?_
 refine VOwn.own ?_
 rw [g1]
 refine VCall.ofRowM (left07_row _ [p] (-1) 0 (-(hi.1 + 1)) M2 (hl0.le hM2) h1 (by simp) (half_x _ (by omega)).2.1) rfl ?_
 rintro n2 xs2 M3 hM3 ⟨rfl, P2⟩
 have l1 := P1.1
 have l2 := P2.1
 refine VFact.mk (show (xs1.length + xs2.length) * 24 ≤ 140737488355328 by omega) ?_
 refine VCode.st cxIOK ?_
 refine VDraw.go (by kernel_rfl) ?_
 refine VArith.ok (by first | omega | (simp only; omega)) (by first | omega | (simp only; omega)) ?_
 refine VFn.mk _ (left07_fn _ [p] (-1) 0 (-lo.1) M3 (hl0.le (hM2.trans hM3)) h1 (by simp) (half_x _ (by omega)).2.1) ?_
 rintro rs M4 hM4 ⟨u3, rfl, hu3⟩
 refine VOwn.frz ?_
 refine VFn.mk _ (left07_fn _ _ 1 0 hi.1 M4 hu3 hVm (by omega) (half_x _ (by omega)).1) ?_
 rintro rs M5 hM5 ⟨u4, rfl, hu4⟩
 rw [em] at hu4
 refine VCode.st cxIOK ?_
 refine VArith.ok (by first | omega | (simp only; omega)) (by first | omega | (simp only; omega)) ?_
 refine VOwn.own ?_
 refine VCall.ofRowM (left07_row _ _ 0 1 (lo.2 - 1) M5 hu4 hVn (by omega) (half_x _ (by omega)).2.2.1) rfl ?_
 rintro n3 xs3 M6 hM6 ⟨rfl, P3⟩
 have l3 := P3.1
 refine VFact.mk (show (xs1.length + xs2.length + xs3.length) * 24 ≤ 140737488355328 by omega) ?_
 refine VCode.of_vc cxIOK ?_
 refine VArith.ok (by first | omega | (simp only; omega)) (by first | omega | (simp only; omega)) ?_
 refine VArith.ok (by first | omega | (simp only; omega)) (by first | omega | (simp only; omega)) ?_
 refine VOwn.own ?_
 rw [g2]
 refine VCall.ofRowM (left07_row _ _ 0 (-1) (-(hi.2 + 1)) M6 (hu4.le hM6) hVn (by omega) (half_x _ (by omega)).2.2.2) rfl ?_
 rintro n4 xs4 M7 hM7 ⟨rfl, P4⟩
 have l4 := P4.1
 refine VFact.mk (show (xs1.length + xs2.length + xs3.length + xs4.length) * 24 ≤ 140737488355328 by omega) ?_
 refine VFz.mk fun x Bx M8 hM8 hx => ?_
 refine VFact.mk ⟨x, rfl, ?_⟩ trivial
 have PP := (((P1.le (hM3.trans (hM4.trans (hM5.trans (hM6.trans hM7))))).app (P2.le (hM4.trans (hM5.trans (hM6.trans hM7))))).app (P3.le hM7)).app P4
 have eo : outP lo hi p = leftL [p] 1 0 (lo.1 - 1) ++ leftL [p] (-1) 0 (-(hi.1 + 1)) ++ leftL (midL p lo hi) 0 1 (lo.2 - 1) ++ leftL (midL p lo hi) 0 (-1) (-(hi.2 + 1)) := by
  unfold outP; simp only [List.append_assoc]
 rw [eo]
 refine RegV.of' hx ?_ (PP.le hM8)
 simp only [List.length_append]
 omega
set_option maxHeartbeats 2000000 in
theorem Without07_fn (v : Value) (r : List (List Pt)) (lo hi : Pt) (M : Mem) (hv : RegV M v r) (hall : ∀ p ∈ r, validB p = true) (hl : r.length ≤ 1000) (h2 : placeB lo = true) (h3 : placeB hi = true) :
  V.Fn Tryz.prog 121 [v, ptv lo, ptv hi] M fun rs M' => ∃ u, rs = [u] ∧ RegV M' u (withoutB r lo hi) := by
 obtain ⟨ad, c, rfl, hm, hrd⟩ := hv.get
 have ql := fun i => flatMap_len (outP lo hi) 4 (fun p => outP_len p lo hi) (r.take i)
 refine Fn.of_vc cxOK Tryz.func121 rfl rfl rfl ?_
 refine VCode.loop cxOK (Nat × List Value × Mem) (fun (⟨i, xs, M2⟩ : Nat × List Value × Mem) => ⟨[(0, .v (.slice ad r.length c)), (4, .box 0 0), (5, .box 1 0), (7, .row 2), (8, .v (.int .i64 i))], [(0, some (.box 44 [.v (.int .i64 lo.1), .v (.int .i64 lo.2)])), (1, some (.box 44 [.v (.int .i64 hi.1), .v (.int .i64 hi.2)])), (2, some (.row 64 1 xs.length xs))], 3, M2, 26, ⟨fun _ => none, none, fun _ => none⟩⟩)
  (fun (⟨i, xs, M2⟩ : Nat × List Value × Mem) => (M.le M2 ∧ i ≤ r.length) ∧ PlsV M2 xs ((r.take i).flatMap (outP lo hi))) (fun (⟨i, _, _⟩ : Nat × List Value × Mem) => r.length - i) (0, [], M) ⟨⟨Mem.le_refl _, Nat.zero_le _⟩, PlsV.nil _⟩ (Wk.nil 7 64 1 rfl (Wk.mk' id (by repeat' constructor) (by repeat' constructor) (injOK_id _) rfl rfl rfl)) ?_
 rintro ⟨i, xs, M2⟩ ⟨⟨hM2, hi'⟩, hp⟩ m
 have hxl : xs.length ≤ 4000 := by have := ql i; rw [hp.1]; rw [List.length_take] at this; omega
 refine VIf.mk (fun hlt => ?_) (fun hge => ?_)
 ·have hlt : i < r.length := lt_of_dec hlt
  obtain ⟨a1, w, e1, p1, q1, c1⟩ := hrd M2 hM2 i hlt
  have hV : validB (gr r i) = true := val_gr hall hlt
  have p1 : Pts M2 w (gr r i) := p1
  have hst : (r.take (i + 1)).flatMap (outP lo hi) = (r.take i).flatMap (outP lo hi) ++ outP lo hi (gr r i) := flatR_take [] (outP lo hi) r hlt
  have ol := outP_len (gr r i) lo hi
  refine VDraw.go (by kernel_rfl) ?_
  refine VIdx.mk a1 i e1 rfl hlt ?_
  refine VRead.mk w c1 ?_
  refine VFn.mk _ (pieces07_fn w (gr r i) lo hi M2 p1 hV h2 h3) ?_
  rintro rs M3 hM3 ⟨u, rfl, hu⟩
  obtain ⟨ys, s1, s2⟩ := hu.pls
  refine VSl.mk _ ys s1 ?_
  refine VFact.mk (show (xs.length + (outP lo hi (gr r i)).length) * 24 ≤ 140737488355328 by omega) ?_
  refine VArith.ok (by first | omega | (simp only; omega)) (by first | omega | (simp only; omega)) ?_
  refine ⟨(i + 1, xs ++ ys, M3), ⟨⟨hM2.trans hM3, hlt⟩, ?_⟩, (by first | omega | (simp only; omega)), Wk.mk' (fun k => if k = 2 then 3 else k) (by repeat' constructor) ⟨⟨rfl, by repeat' constructor⟩, ⟨rfl, by repeat' constructor⟩, ⟨rfl, ⟨rfl, rfl, ?_, ?_⟩⟩, trivial⟩ (by simp [injOK]) rfl rfl rfl⟩
  ·rw [hst]; exact (hp.le hM3).app s2
  ·rw [List.length_append, s2.1]
  ·rfl
 ·have : i = r.length := by have := ge_of_dec hge; omega
  subst this
  rw [List.take_length] at hp
  have ql' := ql r.length
  rw [List.take_length] at ql'
  refine VFz.mk fun x Bx M3 hM3 hx => ?_
  have hx2 := RegV.of' hx hp.1 (hp.le hM3)
  refine VFn.mk _ (Tidied07_fn x _ M3 hx2 (fun p hp => ?_) (by omega)) ?_
  ·obtain ⟨q, hq, hp⟩ := List.mem_flatMap.1 hp
   exact outP_valid (hall q hq) lo hi p hp
  rintro rs M4 hM4 ⟨u, rfl, hu⟩
  exact VFact.mk ⟨u, rfl, hu⟩ trivial
theorem In07_fn (v : Value) (r : List (List Pt)) (x : Pt) (M : Mem) (hv : RegV M v r) (hall : ∀ p ∈ r, validB p = true) (hx : placeB x = true) : FnP Tryz.prog 21 [v, ptv x] M [.bool (regB r x)] := by
 obtain ⟨ad, c, rfl, hm, hrd⟩ := hv.get
 refine Fn.of_vc cxOK Tryz.func21 rfl rfl rfl ?_
 refine VCode.loop cxOK Nat (fun i => ⟨[(0, .v (.slice ad r.length c)), (3, .box 0 0), (5, .v (.int .i64 i))], [(0, some (.box 44 [.v (.int .i64 x.1), .v (.int .i64 x.2)]))], 1, M, 20, ⟨fun _ => none, none, fun _ => none⟩⟩)
  (fun i => i ≤ r.length ∧ ∀ j, j < i → hasB (gr r j) x = false) (fun i => r.length - i) 0 ⟨Nat.zero_le _, fun j hj => absurd hj (Nat.not_lt_zero _)⟩ (Wk.mk' id (by repeat' constructor) (by repeat' constructor) (injOK_id _) rfl rfl rfl) ?_
 rintro i ⟨hi, hz⟩ m
 refine VIf.mk (fun hlt => ?_) (fun hge => ?_)
 ·have hlt : i < r.length := lt_of_dec hlt
  obtain ⟨a1, w, e1, p1, q1, c1⟩ := hrd M (Mem.le_refl _) i hlt
  have p1 : Pts M w (gr r i) := p1
  refine VDraw.go (by kernel_rfl) ?_
  refine VIdx.mk a1 i e1 rfl hlt ?_
  refine VRead.mk w c1 ?_
  refine VFn.p (Inside_is (x := x) p1 (val_gr hall hlt) hx rfl) ?_
  refine VIf.mk (fun hc => ?_) (fun hc => ?_)
  ·refine VFact.mk ⟨?_, rfl⟩ trivial
   have : regB r x = true := regB_iff.2 ⟨_, gr_mem hlt, hc⟩
   rw [this]
  ·refine VArith.ok (by first | omega | (simp only; omega)) (by first | omega | (simp only; omega)) ?_
   refine ⟨i + 1, ⟨hlt, fun j hj => ?_⟩, (by first | omega | (simp only; omega)), (Wk.mk' id (by repeat' constructor) (by repeat' constructor) (injOK_id _) rfl rfl rfl)⟩
   by_cases e : j = i
   ·subst e; exact hc
   ·exact hz j (by omega)
 ·have : i = r.length := by have := ge_of_dec hge; omega
  subst this
  refine VFact.mk ⟨?_, rfl⟩ trivial
  have : regB r x = false := by
   cases hb : regB r x with
   | false => rfl
   | true =>
    obtain ⟨p, hp, hx⟩ := regB_iff.1 hb
    obtain ⟨j, hj, rfl⟩ := mem_gr hp
    rw [hz j hj] at hx; cases hx
  rw [this]
theorem Same07_fn (v w : Value) (a b : List (List Pt)) (M : Mem) (hv : RegV M v a) (hw : RegV M w b) : FnP Tryz.prog 18 [v, w] M [.bool (decide (a = b))] := by
 obtain ⟨ad, c, rfl, hm, hrd⟩ := hv.get
 obtain ⟨bd, d, rfl, hm', hrd'⟩ := hw.get
 refine Fn.of_vc cxOK Tryz.func18 rfl rfl rfl ?_
 refine VIf.mk (fun h => ?_) (fun h => ?_)
 ·have h := ne_of_bne h
  refine VFact.mk ⟨?_, rfl⟩ trivial
  rw [decide_eq_false (fun e => h (by rw [e]))]
 have hl : a.length = b.length := eq_of_bne h
 refine VCode.loop cxOK Nat (fun i => ⟨[(0, .v (.slice ad a.length c)), (1, .v (.slice bd b.length d)), (5, .v (.int .i64 i))], [], 0, M, 29, ⟨fun _ => none, none, fun _ => none⟩⟩)
  (fun i => i ≤ a.length ∧ ∀ j, j < i → gr a j = gr b j) (fun i => a.length - i) 0 ⟨Nat.zero_le _, fun j hj => by omega⟩ (Wk.mk' id (by repeat' constructor) (by repeat' constructor) (injOK_id _) rfl rfl rfl) ?_
 rintro i ⟨hi, hz⟩ m
 refine VIf.mk (fun hlt => ?_) (fun hge => ?_)
 ·have hlt : i < a.length := lt_of_dec hlt
  obtain ⟨a1, w1, e1, p1, q1, c1⟩ := hrd M (Mem.le_refl _) i hlt
  obtain ⟨a2, w2, e2, p2, q2, c2⟩ := hrd' M (Mem.le_refl _) i (by omega)
  refine VDraw.go (by kernel_rfl) ?_
  refine VIdx.mk a1 i e1 rfl hlt ?_
  refine VRead.mk w1 c1 ?_
  refine VIdx.mk a2 i e2 rfl (by omega) ?_
  refine VRead.mk w2 c2 ?_
  refine VFn.p (Same_fn w1 w2 (gr a i) (gr b i) M p1 p2) ?_
  refine VIf.mk (fun hd => ?_) (fun hd => ?_)
  ·refine VFact.mk ⟨?_, rfl⟩ trivial
   have hd := of_decide_eq_false ((Bool.not_eq_true' _).mp hd)
   rw [decide_eq_false (fun e => hd (by rw [e]))]
  ·have hd := of_decide_eq_true ((Bool.not_eq_false' _).mp hd)
   refine VArith.ok (by first | omega | (simp only; omega)) (by first | omega | (simp only; omega)) ?_
   refine ⟨i + 1, ⟨hlt, fun j hj => ?_⟩, (by first | omega | (simp only; omega)), (Wk.mk' id (by repeat' constructor) (by repeat' constructor) (injOK_id _) rfl rfl rfl)⟩
   by_cases e : j = i
   ·subst e; exact hd
   ·exact hz j (by omega)
 ·have : i = a.length := by have := ge_of_dec hge; omega
  subst this
  refine VFact.mk ⟨?_, rfl⟩ trivial
  have : a = b := by
   refine List.ext_getElem hl fun i h1 h2 => ?_
   have := hz i h1
   simpa [gr, h1, h2] using this
  rw [decide_eq_true this]
end Go.Proofs.YtcdlplobniogpaaGreat
namespace Go.Proofs.YtcdlplobniogpaaGreat
open Go
structure CellS where
 lo : Int
 hi : Int
 dt : Int
 vd : Bool
structure BeaS where
 id : Int
 x : Int
 y : Int
structure LinS where
 id : Int
 ps : List Pt
structure ChartS where
 ver : Int
 x : Int
 y : Int
 w : Int
 h : Int
 sz : Int
 cs : List CellS
 bs : List BeaS
 ls : List LinS
def cell0 : CellS := ⟨0, 0, 0, false⟩
def bea0 : BeaS := ⟨0, 0, 0⟩
def lin0 : LinS := ⟨0, []⟩
def gce (l : List CellS) (i : Nat) : CellS := l.getD i cell0
def gbe (l : List BeaS) (i : Nat) : BeaS := l.getD i bea0
def gli (l : List LinS) (i : Nat) : LinS := l.getD i lin0
def cellP (c : CellS) : Prop := -100000 ≤ c.lo ∧ c.lo ≤ c.hi ∧ c.hi ≤ 100000 ∧ 0 ≤ c.dt ∧ c.dt ≤ 1000000000
instance (c : CellS) : Decidable (cellP c) := by unfold cellP; infer_instance
def cellOK (c : CellS) : Bool := decide (cellP c)
def idOK (n : Int) : Bool := decide (1 ≤ n ∧ n ≤ 1000000)
def beaOK (b : BeaS) : Bool := idOK b.id && placeB (b.x, b.y)
def pathOK (l : LinS) : Bool := idOK l.id && decide (2 ≤ l.ps.length ∧ l.ps.length ≤ 64) && l.ps.all placeB && (List.range l.ps.length).all (keepB l.ps)
def nmdB (ok : Nat → Bool) (id : Nat → Int) (k : Nat) : Bool := (List.range k).all fun i => ok i && (List.range i).all fun j => id j != id i
theorem nmdB_iff {ok : Nat → Bool} {id : Nat → Int} {k : Nat} : nmdB ok id k = true ↔ ∀ i, i < k → ok i = true ∧ ∀ j, j < i → id j ≠ id i := by
 unfold nmdB
 rw [all_iff]
 simp only [Bool.and_eq_true, all_iff, bne_iff_ne]
theorem nmdB_bad {ok : Nat → Bool} {id : Nat → Int} {k i : Nat} (hi : i < k) (h : ok i = false ∨ ∃ j, j < i ∧ id j = id i) : nmdB ok id k = false := by
 cases hb : nmdB ok id k with
 | false => rfl
 | true =>
  obtain ⟨h1, h2⟩ := nmdB_iff.1 hb i hi
  rcases h with h | ⟨j, hj, e⟩
  ·rw [h1] at h; cases h
  ·exact absurd e (h2 j hj)
def beasOK (l : List BeaS) : Bool := nmdB (fun i => beaOK (gbe l i)) (fun i => (gbe l i).id) l.length && decide (l.length ≤ 100)
def linsOK (l : List LinS) : Bool := nmdB (fun i => pathOK (gli l i)) (fun i => (gli l i).id) l.length && decide (l.length ≤ 50)
def frameC (c : ChartS) : Prop := ((1 ≤ c.ver ∧ c.ver ≤ 1000000) ∧ (1 ≤ c.w ∧ c.w ≤ 4000) ∧ (1 ≤ c.h ∧ c.h ≤ 4000) ∧ c.w * c.h = c.cs.length ∧ c.cs.length ≤ 4000 ∧ 1 ≤ c.sz ∧ c.sz ≤ 10000) ∧ placeB (c.x, c.y) = true ∧ placeB (c.x + c.w * c.sz - 1, c.y + c.h * c.sz - 1) = true
instance (c : ChartS) : Decidable (frameC c) := by unfold frameC; infer_instance
def validC (c : ChartS) : Bool := decide (frameC c) && c.cs.all cellOK && beasOK c.bs && linsOK c.ls
theorem validC_frame {c : ChartS} (h : validC c = true) : frameC c := by
 simp only [validC, Bool.and_eq_true, decide_eq_true_eq] at h
 exact h.1.1.1
theorem validC_not {c : ChartS} (h : ¬ frameC c) : validC c = false := by
 unfold validC
 rw [decide_eq_false h]
 rfl
def bLo (c : ChartS) (i : Int) : Pt := (c.x + i.tmod c.w * c.sz, c.y + i.tdiv c.w * c.sz)
def bHi (c : ChartS) (i : Int) : Pt := ((bLo c i).1 + c.sz - 1, (bLo c i).2 + c.sz - 1)
def meetsP (lo hi low high : Pt) : Bool := decide (lo.1 ≤ high.1) && decide (low.1 ≤ hi.1) && decide (lo.2 ≤ high.2) && decide (low.2 ≤ hi.2)
def unC (c : ChartS) (lo hi : Pt) (k : Nat) : List Int := ((List.range k).filter fun i : Nat => meetsP lo hi (bLo c (i : Int)) (bHi c (i : Int))).map fun i : Nat => (i : Int)
def underC (c : ChartS) (lo hi : Pt) : List Int := unC c lo hi c.cs.length
def colC (fr sz x : Int) : Int := if x < fr then -1 else (x - fr).tdiv sz
end Go.Proofs.YtcdlplobniogpaaGreat
namespace Go.Proofs.YtcdlplobniogpaaGreat
open Go Go.V Go.RowKit
def CellD (_ : Mem) (c : CellS) (r : List Value) : Prop := r = [.int .i64 c.lo, .int .i64 c.hi, .int .i64 c.dt, .bool c.vd] ∧ i64r c.lo ∧ i64r c.hi ∧ i64r c.dt
def BeaD (_ : Mem) (b : BeaS) (r : List Value) : Prop := r = [.int .i64 b.id, .int .i64 b.x, .int .i64 b.y] ∧ i64r b.id ∧ i64r b.x ∧ i64r b.y
def LinD (M : Mem) (l : LinS) (r : List Value) : Prop := ∃ v, r = [.int .i64 l.id, v] ∧ i64r l.id ∧ Pts M v l.ps ∧ i64P l.ps
def CelsV (M : Mem) (v : Value) (l : List CellS) : Prop := Arr CellD M 4 v l
def BeasV (M : Mem) (v : Value) (l : List BeaS) : Prop := Arr BeaD M 3 v l
def LinsV (M : Mem) (v : Value) (l : List LinS) : Prop := Arr LinD M 2 v l
theorem CelsV.le {M M' : Mem} {v : Value} {l : List CellS} (h : CelsV M v l) (hM : M.le M') : CelsV M' v l := Arr.le (fun _ _ _ _ _ h => h) h hM
theorem BeasV.le {M M' : Mem} {v : Value} {l : List BeaS} (h : BeasV M v l) (hM : M.le M') : BeasV M' v l := Arr.le (fun _ _ _ _ _ h => h) h hM
theorem LinsV.le {M M' : Mem} {v : Value} {l : List LinS} (h : LinsV M v l) (hM : M.le M') : LinsV M' v l :=
 Arr.le (fun _ _ _ _ hM ⟨v, h1, h2, h3, h4⟩ => ⟨v, h1, h2, SlAt.le hM h3, h4⟩) h hM
theorem CelsV.get {M : Mem} {v : Value} {l : List CellS} (h : CelsV M v l) : ∃ ad c, v = .slice ad l.length c ∧ l.length ≤ 9223372036854775807 ∧ ∀ M', M.le M' → ∀ i, i < l.length → ∃ ad', ad = some ad' ∧ (i64r (gce l i).lo ∧ i64r (gce l i).hi ∧ i64r (gce l i).dt) ∧ ∀ j y, [Value.int .i64 (gce l i).lo, .int .i64 (gce l i).hi, .int .i64 (gce l i).dt, .bool (gce l i).vd][j]? = some y → M'.cell ((ad'.add (i * 4)).add j) = some y := by
 obtain ⟨ad, c, h1, h2, h3⟩ := Arr.get h
 refine ⟨ad, c, h1, h2, fun M' hM i hi => ?_⟩
 obtain ⟨ad', r, h4, _, ⟨rfl, h5⟩, h6⟩ := h3 i _ (getD_get cell0 hi)
 exact ⟨ad', h4, h5, h6 M' hM⟩
theorem BeasV.get {M : Mem} {v : Value} {l : List BeaS} (h : BeasV M v l) : ∃ ad c, v = .slice ad l.length c ∧ l.length ≤ 9223372036854775807 ∧ ∀ M', M.le M' → ∀ i, i < l.length → ∃ ad', ad = some ad' ∧ (i64r (gbe l i).id ∧ i64r (gbe l i).x ∧ i64r (gbe l i).y) ∧ ∀ j y, [Value.int .i64 (gbe l i).id, .int .i64 (gbe l i).x, .int .i64 (gbe l i).y][j]? = some y → M'.cell ((ad'.add (i * 3)).add j) = some y := by
 obtain ⟨ad, c, h1, h2, h3⟩ := Arr.get h
 refine ⟨ad, c, h1, h2, fun M' hM i hi => ?_⟩
 obtain ⟨ad', r, h4, _, ⟨rfl, h5⟩, h6⟩ := h3 i _ (getD_get bea0 hi)
 exact ⟨ad', h4, h5, h6 M' hM⟩
theorem LinsV.get {M : Mem} {v : Value} {l : List LinS} (h : LinsV M v l) : ∃ ad c, v = .slice ad l.length c ∧ l.length ≤ 9223372036854775807 ∧ ∀ M', M.le M' → ∀ i, i < l.length → ∃ ad' w, ad = some ad' ∧ i64r (gli l i).id ∧ Pts M' w (gli l i).ps ∧ i64P (gli l i).ps ∧ ∀ j y, [Value.int .i64 (gli l i).id, w][j]? = some y → M'.cell ((ad'.add (i * 2)).add j) = some y := by
 obtain ⟨ad, c, h1, h2, h3⟩ := Arr.get h
 refine ⟨ad, c, h1, h2, fun M' hM i hi => ?_⟩
 obtain ⟨ad', r, h4, _, ⟨w, rfl, h5, h6, h6'⟩, h7⟩ := h3 i _ (getD_get lin0 hi)
 exact ⟨ad', w, h4, h5, SlAt.le hM h6, h6', h7 M' hM⟩
theorem CelsV.shape {M : Mem} {v : Value} {l : List CellS} (h : CelsV M v l) : ∃ ad c, v = .slice ad l.length c := let ⟨ad, c, he, _⟩ := h.get; ⟨ad, c, he⟩
theorem BeasV.shape {M : Mem} {v : Value} {l : List BeaS} (h : BeasV M v l) : ∃ ad c, v = .slice ad l.length c := let ⟨ad, c, he, _⟩ := h.get; ⟨ad, c, he⟩
theorem LinsV.shape {M : Mem} {v : Value} {l : List LinS} (h : LinsV M v l) : ∃ ad c, v = .slice ad l.length c := let ⟨ad, c, he, _⟩ := h.get; ⟨ad, c, he⟩
def C64 (c : ChartS) : Prop := i64r c.ver ∧ i64r c.x ∧ i64r c.y ∧ i64r c.w ∧ i64r c.h ∧ i64r c.sz
abbrev chV (c : ChartS) (a b d : Value) : Value := .agg #[.int .i64 c.ver, .int .i64 c.x, .int .i64 c.y, .int .i64 c.w, .int .i64 c.h, .int .i64 c.sz, a, b, d]
structure Cha (M : Mem) (c : ChartS) (a b d : Value) : Prop where
 r : C64 c
 cs : CelsV M a c.cs
 bs : BeasV M b c.bs
 ls : LinsV M d c.ls
theorem Cha.le {M M' : Mem} {c : ChartS} {a b d : Value} (h : Cha M c a b d) (hM : M.le M') : Cha M' c a b d := ⟨h.r, h.cs.le hM, h.bs.le hM, h.ls.le hM⟩
theorem Cha.shape {M : Mem} {c : ChartS} {a b d : Value} (h : Cha M c a b d) : (∃ ad k, a = .slice ad c.cs.length k) ∧ (∃ ad k, b = .slice ad c.bs.length k) ∧ ∃ ad k, d = .slice ad c.ls.length k := ⟨h.cs.shape, h.bs.shape, h.ls.shape⟩
end Go.Proofs.YtcdlplobniogpaaGreat
namespace Go.Proofs.YtcdlplobniogpaaGreat
open Go Go.V Go.RowKit
theorem isID_fn (n : Int) (M : Mem) : FnP Tryz.prog 87 [.int .i64 n] M [.bool (idOK n)] := by
 refine Fn.of_vc cxOK Tryz.func87 rfl rfl rfl ?_
 refine VIf.mk (fun h => ?_) (fun h => ?_)
 ·have h := of_decide_eq_true h
  repeat (first | refine VIf.tt ?_ | refine VIf.ff ?_)
  refine VFact.mk ⟨?_, rfl⟩ trivial
  have : idOK n = decide (n ≤ 1000000) := by unfold idOK; simp [h]
  rw [this]
 ·have h := of_decide_eq_false h
  repeat (first | refine VIf.tt ?_ | refine VIf.ff ?_)
  refine VFact.mk ⟨?_, rfl⟩ trivial
  have : idOK n = false := by unfold idOK; simp [h]
  rw [this]
theorem chartPlace_fn (p : Pt) (M : Mem) (h1 : i64r p.1) (h2 : i64r p.2) : V.Fn Tryz.prog 88 [ptv p] M fun rs _ => rs = [.bool (placeB p)] := by
 refine Fn.of_vc cxOK Tryz.func88 rfl rfl rfl ?_
 refine VFz.mk fun x B M1 hle hx => ?_
 refine VFn.mk _ (HullOne_fn x p M1 hx h1 h2) ?_
 rintro rs M2 hM2 hr
 by_cases hp : placeB p = true
 ·rw [if_pos hp] at hr
  obtain ⟨u, rfl, hu⟩ := hr
  refine VFact.mk ?_ trivial
  rw [hp]; rfl
 ·rw [if_neg hp] at hr
  subst hr
  have hp : placeB p = false := by simpa using hp
  refine VFact.mk ?_ trivial
  rw [hp]; rfl
theorem isCell_fn (c : CellS) (M : Mem) : FnP Tryz.prog 91 [.agg #[.int .i64 c.lo, .int .i64 c.hi, .int .i64 c.dt, .bool c.vd]] M [.bool (cellOK c)] := by
 have bad : ¬ cellP c → cellOK c = false := fun h => decide_eq_false h
 refine Fn.of_vc cxOK Tryz.func91 rfl rfl rfl ?_
 refine VIf.mk (fun h1 => ?_) (fun h1 => ?_)
 rotate_left
 ·have h1 := of_decide_eq_false h1
  repeat (first | refine VIf.tt ?_ | refine VIf.ff ?_)
  refine VFact.mk ⟨?_, rfl⟩ trivial
  rw [bad (fun h => by unfold cellP at h; omega)]
 have h1 := of_decide_eq_true h1
 repeat (first | refine VIf.tt ?_ | refine VIf.ff ?_)
 refine VIf.mk (fun h2 => ?_) (fun h2 => ?_)
 rotate_left
 ·have h2 := of_decide_eq_false h2
  repeat (first | refine VIf.tt ?_ | refine VIf.ff ?_)
  refine VFact.mk ⟨?_, rfl⟩ trivial
  rw [bad (fun h => by unfold cellP at h; omega)]
 have h2 := of_decide_eq_true h2
 repeat (first | refine VIf.tt ?_ | refine VIf.ff ?_)
 refine VIf.mk (fun h3 => ?_) (fun h3 => ?_)
 rotate_left
 ·have h3 := of_decide_eq_false h3
  repeat (first | refine VIf.tt ?_ | refine VIf.ff ?_)
  refine VFact.mk ⟨?_, rfl⟩ trivial
  rw [bad (fun h => by unfold cellP at h; omega)]
 have h3 := of_decide_eq_true h3
 repeat (first | refine VIf.tt ?_ | refine VIf.ff ?_)
 refine VIf.mk (fun h4 => ?_) (fun h4 => ?_)
 rotate_left
 ·have h4 := of_decide_eq_false h4
  repeat (first | refine VIf.tt ?_ | refine VIf.ff ?_)
  refine VFact.mk ⟨?_, rfl⟩ trivial
  rw [bad (fun h => by unfold cellP at h; omega)]
 have h4 := of_decide_eq_true h4
 repeat (first | refine VIf.tt ?_ | refine VIf.ff ?_)
 refine VFact.mk ⟨?_, rfl⟩ trivial
 have : cellOK c = decide (c.dt ≤ 1000000000) := by
  unfold cellOK
  rw [decide_eq_decide]
  unfold cellP
  omega
 rw [this]
theorem chValid1_fn (c : CellS) (M : Mem) : FnP Tryz.prog 90 [.agg #[.int .i64 c.lo, .int .i64 c.hi, .int .i64 c.dt, .bool c.vd]] M [.bool (!cellOK c)] := by
 refine Fn.of_vc cxOK Tryz.func90 rfl rfl rfl ?_
 refine VFn.p (isCell_fn c _) ?_
 exact VFact.mk ⟨rfl, rfl⟩ trivial
theorem IndexCe_fn (v : Value) (l : List CellS) (M : Mem) (hv : CelsV M v l) :
  V.Fn Tryz.prog 137 [v, .func (.func 90) #[] #[]] M fun rs _ => ∃ k : Int, rs = [.int .i64 k] ∧ (0 ≤ k ↔ l.any (fun c => !cellOK c) = true) := by
 obtain ⟨ad, c, rfl, hm, hrd⟩ := hv.get
 refine Fn.of_vc cxOK Tryz.func137 rfl rfl rfl ?_
 refine VCode.loop cxOK Nat (fun i => ⟨[(0, .v (.slice ad l.length c)), (1, .v (.func (.func 90) #[] #[])), (7, .v (.int .i64 l.length)), (8, .v (.int .i64 i))], [], 0, M, 19, ⟨fun _ => none, none, fun _ => none⟩⟩)
  (fun i => i ≤ l.length ∧ ∀ j, j < i → (!cellOK (gce l j)) = false) (fun i => l.length - i) 0 ⟨Nat.zero_le _, fun j hj => by simp at hj⟩ (Wk.mk' id (by repeat' constructor) (by repeat' constructor) (injOK_id _) rfl rfl rfl) ?_
 rintro i ⟨hi, hz⟩ m
 refine VIf.mk (fun hlt => ?_) (fun hge => ?_)
 ·have hlt := lt_of_dec hlt
  obtain ⟨ad', ead, _, hpi⟩ := hrd M (Mem.le_refl _) i hlt
  refine VIdx.mk ad' i ead rfl hlt ?_
  refine VReads.mk [.int .i64 (gce l i).lo, .int .i64 (gce l i).hi, .int .i64 (gce l i).dt, .bool (gce l i).vd] rfl hpi ?_
  refine VFn.p (chValid1_fn (gce l i) M) ?_
  refine VIf.mk (fun hc => ?_) (fun hc => ?_)
  ·refine VFact.mk ⟨i, rfl, ?_⟩ trivial
   have := any_getD cell0 (fun c => !cellOK c) l hlt hc
   simp [this]
  ·refine VArith.ok (by first | omega | (simp only; omega)) (by first | omega | (simp only; omega)) ?_
   refine ⟨i + 1, ⟨hlt, fun j hj => ?_⟩, (by first | omega | (simp only; omega)), (Wk.mk' id (by repeat' constructor) (by repeat' constructor) (injOK_id _) rfl rfl rfl)⟩
   by_cases e : j = i
   ·subst e; exact hc
   ·exact hz j (by omega)
 ·have : i = l.length := by have := ge_of_dec hge; omega
  subst this
  refine VFact.mk ⟨-1, rfl, ?_⟩ trivial
  have := any_none cell0 (fun c => !cellOK c) l hz
  simp [this]
theorem ContainsCe_fn (v : Value) (l : List CellS) (M : Mem) (hv : CelsV M v l) :
  V.Fn Tryz.prog 89 [v, .func (.func 90) #[] #[]] M fun rs _ => rs = [.bool (!l.all cellOK)] := by
 obtain ⟨ad, c, rfl⟩ := hv.shape
 refine Fn.of_vc cxOK Tryz.func89 rfl rfl rfl ?_
 refine VFn.mk _ (IndexCe_fn _ l M hv) ?_
 rintro rs M1 hM1 ⟨k, rfl, hk⟩
 refine VFact.mk (bool1 ?_) trivial
 rw [List.not_all_eq_any_not, ← hk]; simp
theorem beaconID_fn (b : BeaS) (M : Mem) : FnP Tryz.prog 94 [.agg #[.int .i64 b.id, .int .i64 b.x, .int .i64 b.y]] M [.int .i64 b.id] := by
 refine Fn.of_vc cxOK Tryz.func94 rfl rfl rfl ?_
 exact VFact.mk ⟨rfl, rfl⟩ trivial
theorem lineID_fn (n : Int) (v : Value) (M : Mem) : FnP Tryz.prog 97 [.agg #[.int .i64 n, v]] M [.int .i64 n] := by
 refine Fn.of_vc cxOK Tryz.func97 rfl rfl rfl ?_
 exact VFact.mk ⟨rfl, rfl⟩ trivial
theorem chValid2_fn (b : BeaS) (M : Mem) (h : i64r b.id ∧ i64r b.x ∧ i64r b.y) : V.Fn Tryz.prog 92 [.agg #[.int .i64 b.id, .int .i64 b.x, .int .i64 b.y]] M fun rs _ => rs = [.bool (beaOK b)] := by
 refine Fn.of_vc cxOK Tryz.func92 rfl rfl rfl ?_
 refine VFn.p (isID_fn _ _) ?_
 refine VIf.mk (fun h1 => ?_) (fun h1 => ?_)
 ·repeat (first | refine VIf.tt ?_ | refine VIf.ff ?_)
  refine VFn.mk _ (chartPlace_fn (b.x, b.y) _ h.2.1 h.2.2) ?_
  rintro rs M1 hM1 rfl
  repeat (first | refine VIf.tt ?_ | refine VIf.ff ?_)
  refine VFact.mk ?_ trivial
  unfold beaOK; rw [h1]; rfl
 ·repeat (first | refine VIf.tt ?_ | refine VIf.ff ?_)
  refine VFact.mk ?_ trivial
  unfold beaOK; rw [h1]; rfl
theorem isLine1_fn (p : Pt) (M : Mem) (h1 : i64r p.1) (h2 : i64r p.2) : V.Fn Tryz.prog 139 [ptv p] M fun rs _ => rs = [.bool (!placeB p)] := by
 refine Fn.of_vc cxOK Tryz.func139 rfl rfl rfl ?_
 refine VFn.mk _ (chartPlace_fn p _ h1 h2) ?_
 rintro rs M1 hM1 rfl
 exact VFact.mk rfl trivial
theorem IndexPm_fn (v : Value) (ps : List Pt) (fid : Nat) (g : Pt → Bool) (M : Mem) (hv : Pts M v ps) (hg : ∀ i, i < ps.length → ∀ M', V.Fn Tryz.prog fid [ptv (gp ps i)] M' fun rs _ => rs = [.bool (g (gp ps i))]) :
  V.Fn Tryz.prog 174 [v, .func (.func fid) #[] #[]] M fun rs _ => ∃ k : Int, rs = [.int .i64 k] ∧ (0 ≤ k ↔ ps.any g = true) := by
 obtain ⟨ad, c, rfl⟩ := hv.shape
 obtain ⟨_, hm, hrd⟩ := hv.cellsOf
 unfold maxLen at hm
 refine Fn.of_vc cxOK Tryz.func174 rfl rfl rfl ?_
 refine VCode.loop cxOK (Nat × Mem) (fun s => ⟨[(0, .v (.slice ad ps.length c)), (1, .v (.func (.func fid) #[] #[])), (7, .v (.int .i64 ps.length)), (8, .v (.int .i64 s.1))], [], 0, s.2, 19, ⟨fun _ => none, none, fun _ => none⟩⟩)
  (fun s => M.le s.2 ∧ s.1 ≤ ps.length ∧ ∀ j, j < s.1 → g (gp ps j) = false) (fun s => ps.length - s.1) (0, M) ⟨Mem.le_refl _, Nat.zero_le _, fun j hj => by simp at hj⟩ (Wk.mk' id (by repeat' constructor) (by repeat' constructor) (injOK_id _) rfl rfl rfl) ?_
 rintro ⟨i, M1⟩ ⟨hM1, hi, hz⟩ m
 have hM1 : M.le M1 := hM1
 refine VIf.mk (fun hlt => ?_) (fun hge => ?_)
 ·have hlt := lt_of_dec hlt
  obtain ⟨ad', ead, hpi⟩ := hrd M1 hM1 i hlt
  refine VIdx.mk ad' i ead rfl hlt ?_
  refine VReads.mk [.int .i64 (gp ps i).1, .int .i64 (gp ps i).2] rfl hpi ?_
  refine VFn.mk _ (hg i hlt M1) ?_
  rintro rs M2 hM2 rfl
  refine VIf.mk (fun hc => ?_) (fun hc => ?_)
  ·refine VFact.mk ⟨i, rfl, ?_⟩ trivial
   have := any_getD (0, 0) g ps hlt hc
   simp [this]
  ·refine VArith.ok (by first | omega | (simp only; omega)) (by first | omega | (simp only; omega)) ?_
   refine ⟨(i + 1, M2), ⟨hM1.trans hM2, hlt, fun j hj => ?_⟩, (by first | omega | (simp only; omega)), (Wk.mk' id (by repeat' constructor) (by repeat' constructor) (injOK_id _) rfl rfl rfl)⟩
   by_cases e : j = i
   ·subst e; exact hc
   ·exact hz j (by simp only at hj ⊢; omega)
 ·have : i = ps.length := by have := ge_of_dec hge; have hi : i ≤ ps.length := hi; omega
  subst this
  refine VFact.mk ⟨-1, rfl, ?_⟩ trivial
  have := any_none (0, 0) g ps hz
  simp [this]
theorem ContainsPm_fn (v : Value) (ps : List Pt) (fid : Nat) (g : Pt → Bool) (M : Mem) (hv : Pts M v ps) (hg : ∀ i, i < ps.length → ∀ M', V.Fn Tryz.prog fid [ptv (gp ps i)] M' fun rs _ => rs = [.bool (g (gp ps i))]) :
  V.Fn Tryz.prog 138 [v, .func (.func fid) #[] #[]] M fun rs _ => rs = [.bool (ps.any g)] := by
 obtain ⟨ad, c, rfl⟩ := hv.shape
 refine Fn.of_vc cxOK Tryz.func138 rfl rfl rfl ?_
 refine VFn.mk _ (IndexPm_fn _ ps fid g M hv hg) ?_
 rintro rs M1 hM1 ⟨k, rfl, hk⟩
 refine VFact.mk (bool1 ?_) trivial
 rw [← hk]; simp
end Go.Proofs.YtcdlplobniogpaaGreat
namespace Go.Proofs.YtcdlplobniogpaaGreat
open Go Go.V Go.RowKit
theorem pathOK_id {l : LinS} (h : idOK l.id = false) : pathOK l = false := by unfold pathOK; rw [h]; rfl
theorem pathOK_len {l : LinS} (h : ¬ (2 ≤ l.ps.length ∧ l.ps.length ≤ 64)) : pathOK l = false := by unfold pathOK; rw [decide_eq_false h, Bool.and_false]; rfl
theorem pathOK_pl {l : LinS} (h : l.ps.all placeB = false) : pathOK l = false := by unfold pathOK; rw [h, Bool.and_false]; rfl
theorem comp_lt {ps : List Pt} : ∀ {k i : Nat}, i < k → keepB ps i = false → (comp ps k).length < k := by
 intro k i hik hi
 have h1 := comp_le ps (j := i + 1) (k := k) (by omega)
 have h2 := comp_len ps i
 rw [comp_succ, if_neg (by rw [hi]; exact Bool.false_ne_true)] at h1
 omega
theorem compact_len (ps : List Pt) : decide (((compactP ps).length : Int) = ps.length) = (List.range ps.length).all (keepB ps) := by
 unfold compactP
 by_cases h : (List.range ps.length).all (keepB ps) = true
 ·rw [h, comp_all ps ps.length (Nat.le_refl _) (all_iff.1 h)]
  simp
 ·have h : (List.range ps.length).all (keepB ps) = false := by simpa using h
  rw [h]
  have h' : ¬ ∀ i, i < ps.length → keepB ps i = true := fun hh => by rw [all_true hh] at h; cases h
  obtain ⟨i, hi⟩ := Classical.not_forall.1 h'
  obtain ⟨hi1, hi2⟩ := Classical.not_imp.1 hi
  have := comp_lt hi1 (by simpa using hi2)
  exact decide_eq_false (by omega)
set_option maxRecDepth 20000 in
set_option maxHeartbeats 2000000 in
theorem isLine_fn (l : LinS) (v : Value) (M : Mem) (hv : Pts M v l.ps) (h64 : i64P l.ps) : V.Fn Tryz.prog 96 [.agg #[.int .i64 l.id, v]] M fun rs _ => rs = [.bool (pathOK l)] := by
 obtain ⟨ad, c, rfl⟩ := hv.shape
 refine Fn.of_vc cxIOK Tryz.func96 rfl rfl rfl ?_
 refine VOwn.frz ?_
 refine VFn.p (isID_fn _ _) ?_
 refine VIf.mk (fun h1 => ?_) (fun h1 => ?_)
 ·repeat (first | refine VIf.tt ?_ | refine VIf.ff ?_)
  exact VFact.mk (by rw [pathOK_id (by simpa using h1)]) trivial
 repeat (first | refine VIf.tt ?_ | refine VIf.ff ?_)
 refine VIf.mk (fun h2 => ?_) (fun h2 => ?_)
 ·have h2 := of_decide_eq_true h2
  repeat (first | refine VIf.tt ?_ | refine VIf.ff ?_)
  exact VFact.mk (by rw [pathOK_len (by omega)]) trivial
 repeat (first | refine VIf.tt ?_ | refine VIf.ff ?_)
 refine VIf.mk (fun h3 => ?_) (fun h3 => ?_)
 ·have h3 := of_decide_eq_true h3
  exact VFact.mk (by rw [pathOK_len (by omega)]) trivial
 have h2 := of_decide_eq_false h2
 have h3 := of_decide_eq_false h3
 have hl : 2 ≤ l.ps.length ∧ l.ps.length ≤ 64 := by omega
 have h1 : idOK l.id = true := by simpa using h1
 refine VDraw.code ?_
 refine VCode.draws cxIOK [1] (by kernel_rfl) (Mem × Bool) (fun s => ⟨[(2, .v (.bool s.2))], [], 1, s.1, 34, ⟨fun _ => none, none, fun _ => none⟩⟩) (fun s => s.2 = pathOK l) ?_ ?_
 ·refine VFzB.mk fun z1 B1 M1 hM1 hB1 => ?_
  have hB1 : M1 B1 = some (.cells #[.int .i64 l.id, .slice ad l.ps.length c] 95 (0, 0)) := hB1
  refine VRead.mk (.slice ad l.ps.length c) (cellAt hB1 1 rfl) ?_
  refine VOwn.frz ?_
  refine VFn.mk _ (ContainsPm_fn _ l.ps _ (fun p => !placeB p) M1 (hv.le hM1) fun i hi M' => isLine1_fn _ M' (h64 i hi).1 (h64 i hi).2) ?_
  rintro rs M2 hM2 rfl
  refine VFact.mk hM2 ?_
  have eall : (l.ps.any fun p => !placeB p) = !l.ps.all placeB := by rw [List.not_all_eq_any_not]
  refine VIf.mk (fun hc => ?_) (fun hc => ?_)
  rotate_left
  ·repeat (first | refine VIf.tt ?_ | refine VIf.ff ?_)
   exact ⟨(M2, false), (pathOK_pl (by rw [eall] at hc; simpa using hc)).symm, (Wk.mk' id (by repeat' constructor) (by repeat' constructor) (injOK_id _) rfl rfl rfl)⟩
  have hall : l.ps.all placeB = true := by rw [eall] at hc; simpa using hc
  repeat (first | refine VIf.tt ?_ | refine VIf.ff ?_)
  refine VRead.mk (.slice ad l.ps.length c) (cellAt hB1 1 rfl) ?_
  repeat (first | refine VIf.tt ?_ | refine VIf.ff ?_)
  refine VRead.mk (.slice ad l.ps.length c) (cellAt hB1 1 rfl) ?_
  repeat (first | refine VIf.tt ?_ | refine VIf.ff ?_)
  refine VOwn.own ?_
  refine VCall.ofRowM (Clone_row _ l.ps M2 (hv.le (hM1.trans hM2)) (by omega) (by omega)) rfl ?_
  rintro n1 xs1 M3 hM3 ⟨rfl, rfl⟩
  refine VFact.mk (hM2.trans hM3) ?_
  repeat (first | refine VIf.tt ?_ | refine VIf.ff ?_)
  refine VOwn.own ?_
  refine VCall.pl [(23, .bool true), (31, .int .i64 l.ps.length)] (by repeat' constructor) ?_
  refine VCall.wk (st1 := ⟨[], [(0, some (.row 44 2 l.ps.length (cellsP l.ps)))], 1, M3, 34, ⟨fun _ => none, none, fun _ => none⟩⟩) (args1 := [.row 0]) (fun _ => 1) rfl rfl trivial (by repeat' constructor) (injOK_one _ _ _) rfl rfl rfl ?_
  refine VCall.frzR ?_
  refine Compact_call (ps := l.ps) rfl rfl (by omega) ?_
  refine ⟨0, _, _, _, _, rfl, rfl, rfl, fun x M4 hM4 hx => ?_⟩
  obtain ⟨xa, xc, rfl, _⟩ := hx
  refine VFact.mk (hM2.trans (hM3.trans hM4)) ?_
  repeat (first | refine VIf.tt ?_ | refine VIf.ff ?_)
  refine ⟨(M4, decide (((compactP l.ps).length : Int) = l.ps.length)), ?_, (Wk.mk' id (by repeat' constructor) (by repeat' constructor) (injOK_id _) rfl rfl rfl)⟩
  show decide (((compactP l.ps).length : Int) = l.ps.length) = pathOK l
  rw [compact_len]
  unfold pathOK
  rw [h1, decide_eq_true hl, hall]
  simp
 ·rintro ⟨M2, b⟩ m rfl
  exact VFact.mk rfl trivial
end Go.Proofs.YtcdlplobniogpaaGreat
namespace Go.Proofs.YtcdlplobniogpaaGreat
open Go Go.V Go.RowKit
set_option maxRecDepth 20000 in
set_option maxHeartbeats 2000000 in
theorem namedBea_fn (v : Value) (l : List BeaS) (M : Mem) (hv : BeasV M v l) :
  V.Fn Tryz.prog 93 [v, .int .i64 100, .func (.func 92) #[] #[], .func (.func 94) #[] #[]] M fun rs _ => rs = [.bool (beasOK l)] := by
 obtain ⟨ad, c, rfl, hm, hrd⟩ := hv.get
 have hml : l.length ≤ maxLen := by
  obtain ⟨_, _, _, ⟨_, _, _, h1, h2, _⟩, _⟩ := hv
  exact Nat.le_trans h1 h2
 refine Fn.of_vc cxOK Tryz.func93 rfl rfl rfl ?_
 refine VMapMk.mk 3 4 (by kernel_rfl) (by kernel_rfl) (by kernel_rfl) (by kernel_rfl) fun B => ?_
 refine VCode.loop cxOK (Nat × List Int × Mem) (fun (⟨i, ks, M1⟩ : Nat × List Int × Mem) => ⟨[(0, .v (.slice ad l.length c)), (1, .v (.int .i64 100)), (2, .v (.func (.func 92) #[] #[])), (3, .v (.func (.func 94) #[] #[])), (9, .v (.map (some B))), (13, .v (.slice ad l.length c)), (14, .v (.int .i64 l.length)), (15, .v (.int .i64 i))], [(0, some (.mp Tryz.prog 53 3 4 B ks))], 1, M1, 39, ⟨fun _ => none, none, fun _ => none⟩⟩)
  (fun (⟨i, ks, M1⟩ : Nat × List Int × Mem) => (M.le M1 ∧ i ≤ l.length ∧ ks.length = i) ∧ (∀ x, x ∈ ks ↔ ∃ j, j < i ∧ (gbe l j).id = x) ∧ ∀ j, j < i → beaOK (gbe l j) = true ∧ ∀ k, k < j → (gbe l k).id ≠ (gbe l j).id) (fun (⟨i, _, _⟩ : Nat × List Int × Mem) => l.length - i) (0, [], M)
  ⟨⟨Mem.le_refl _, Nat.zero_le _, rfl⟩, fun x => ⟨fun h => by simp at h, fun ⟨j, hj, _⟩ => absurd hj (Nat.not_lt_zero _)⟩, fun j hj => absurd hj (Nat.not_lt_zero _)⟩ (Wk.mk' id (by repeat' constructor) (by repeat' constructor) (injOK_id _) rfl rfl rfl) ?_
 rintro ⟨i, ks, M1⟩ ⟨⟨hM1, hi, hks⟩, hmem, hok⟩ m
 refine VIf.mk (fun hlt => ?_) (fun hge => ?_)
 ·have hlt : i < l.length := lt_of_dec hlt
  obtain ⟨ad', rfl, h64, hp⟩ := hrd M1 hM1 i hlt
  refine VIdx.mk ad' i rfl rfl hlt ?_
  refine VReads.mk [.int .i64 (gbe l i).id, .int .i64 (gbe l i).x, .int .i64 (gbe l i).y] rfl hp ?_
  refine VFn.mk _ (chValid2_fn (gbe l i) M1 h64) ?_
  rintro rs M2 hM2 rfl
  refine VIf.mk (fun hr => ?_) (fun hr => ?_)
  ·repeat (first | refine VIf.tt ?_ | refine VIf.ff ?_)
   refine VFact.mk ?_ trivial
   have : beasOK l = false := by unfold beasOK; rw [nmdB_bad hlt (.inl (by simpa using hr))]; rfl
   rw [this]
  have hr : beaOK (gbe l i) = true := by simpa using hr
  repeat (first | refine VIf.tt ?_ | refine VIf.ff ?_)
  refine VFn.p (beaconID_fn (gbe l i) M2) ?_
  repeat (first | refine VIf.tt ?_ | refine VIf.ff ?_)
  refine VFact.mk ⟨⟨rfl, rfl, rfl⟩, h64.1⟩ ?_
  repeat (first | refine VIf.tt ?_ | refine VIf.ff ?_)
  refine VIf.mk (fun hd => ?_) (fun hd => ?_)
  ·refine VFact.mk ?_ trivial
   have : beasOK l = false := by unfold beasOK; rw [nmdB_bad hlt (.inr ((hmem _).1 (of_decide_eq_true hd)))]; rfl
   rw [this]
  have hd := of_decide_eq_false hd
  refine VFn.p (beaconID_fn (gbe l i) M2) ?_
  refine VFact.mk ⟨⟨rfl, rfl, rfl⟩, h64.1, by omega⟩ ?_
  refine VArith.ok (by first | omega | (simp only; omega)) (by first | omega | (simp only; omega)) ?_
  refine ⟨(i + 1, (gbe l i).id :: ks, M2), ⟨⟨hM1.trans hM2, hlt, by simp [hks]⟩, fun x => ?_, fun j hj => ?_⟩, (by first | omega | (simp only; omega)), (Wk.mk' id (by repeat' constructor) (by repeat' constructor) (injOK_id _) rfl rfl rfl)⟩
  ·rw [List.mem_cons, hmem]
   constructor
   ·rintro (rfl | ⟨j, hj, e⟩)
    ·exact ⟨i, Nat.lt_succ_self _, rfl⟩
    ·exact ⟨j, by omega, e⟩
   ·rintro ⟨j, hj, e⟩
    by_cases ej : j = i
    ·subst ej; exact .inl e.symm
    ·exact .inr ⟨j, by omega, e⟩
  ·by_cases ej : j = i
   ·subst ej
    exact ⟨hr, fun k hk e => hd ((hmem _).2 ⟨k, hk, e⟩)⟩
   ·exact hok j (by omega)
 ·have : i = l.length := by have := ge_of_dec hge; omega
  subst this
  refine VFact.mk ?_ trivial
  have : beasOK l = decide (l.length ≤ 100) := by unfold beasOK; rw [nmdB_iff.2 hok, Bool.true_and]
  rw [this]
  exact bool1 (by simp only [decide_eq_true_eq]; omega)
set_option maxRecDepth 20000 in
set_option maxHeartbeats 2000000 in
theorem namedLin_fn (v : Value) (l : List LinS) (M : Mem) (hv : LinsV M v l) :
  V.Fn Tryz.prog 95 [v, .int .i64 50, .func (.func 96) #[] #[], .func (.func 97) #[] #[]] M fun rs _ => rs = [.bool (linsOK l)] := by
 obtain ⟨ad, c, rfl, hm, hrd⟩ := hv.get
 have hml : l.length ≤ maxLen := by
  obtain ⟨_, _, _, ⟨_, _, _, h1, h2, _⟩, _⟩ := hv
  exact Nat.le_trans h1 h2
 refine Fn.of_vc cxOK Tryz.func95 rfl rfl rfl ?_
 refine VMapMk.mk 3 4 (by kernel_rfl) (by kernel_rfl) (by kernel_rfl) (by kernel_rfl) fun B => ?_
 refine VCode.loop cxOK (Nat × List Int × Mem) (fun (⟨i, ks, M1⟩ : Nat × List Int × Mem) => ⟨[(0, .v (.slice ad l.length c)), (1, .v (.int .i64 50)), (2, .v (.func (.func 96) #[] #[])), (3, .v (.func (.func 97) #[] #[])), (9, .v (.map (some B))), (13, .v (.slice ad l.length c)), (14, .v (.int .i64 l.length)), (15, .v (.int .i64 i))], [(0, some (.mp Tryz.prog 53 3 4 B ks))], 1, M1, 39, ⟨fun _ => none, none, fun _ => none⟩⟩)
  (fun (⟨i, ks, M1⟩ : Nat × List Int × Mem) => (M.le M1 ∧ i ≤ l.length ∧ ks.length = i) ∧ (∀ x, x ∈ ks ↔ ∃ j, j < i ∧ (gli l j).id = x) ∧ ∀ j, j < i → pathOK (gli l j) = true ∧ ∀ k, k < j → (gli l k).id ≠ (gli l j).id) (fun (⟨i, _, _⟩ : Nat × List Int × Mem) => l.length - i) (0, [], M)
  ⟨⟨Mem.le_refl _, Nat.zero_le _, rfl⟩, fun x => ⟨fun h => by simp at h, fun ⟨j, hj, _⟩ => absurd hj (Nat.not_lt_zero _)⟩, fun j hj => absurd hj (Nat.not_lt_zero _)⟩ (Wk.mk' id (by repeat' constructor) (by repeat' constructor) (injOK_id _) rfl rfl rfl) ?_
 rintro ⟨i, ks, M1⟩ ⟨⟨hM1, hi, hks⟩, hmem, hok⟩ m
 refine VIf.mk (fun hlt => ?_) (fun hge => ?_)
 ·have hlt : i < l.length := lt_of_dec hlt
  obtain ⟨ad', w, rfl, h64, hpt, hp64, hp⟩ := hrd M1 hM1 i hlt
  obtain ⟨wa, wc, rfl⟩ := hpt.shape
  refine VIdx.mk ad' i rfl rfl hlt ?_
  refine VReads.mk [.int .i64 (gli l i).id, .slice wa (gli l i).ps.length wc] rfl hp ?_
  refine VFn.mk _ (isLine_fn (gli l i) _ M1 hpt hp64) ?_
  rintro rs M2 hM2 rfl
  refine VIf.mk (fun hr => ?_) (fun hr => ?_)
  ·repeat (first | refine VIf.tt ?_ | refine VIf.ff ?_)
   refine VFact.mk ?_ trivial
   have : linsOK l = false := by unfold linsOK; rw [nmdB_bad hlt (.inl (by simpa using hr))]; rfl
   rw [this]
  have hr : pathOK (gli l i) = true := by simpa using hr
  repeat (first | refine VIf.tt ?_ | refine VIf.ff ?_)
  refine VFn.p (lineID_fn (gli l i).id _ M2) ?_
  repeat (first | refine VIf.tt ?_ | refine VIf.ff ?_)
  refine VFact.mk ⟨⟨rfl, rfl, rfl⟩, h64⟩ ?_
  repeat (first | refine VIf.tt ?_ | refine VIf.ff ?_)
  refine VIf.mk (fun hd => ?_) (fun hd => ?_)
  ·refine VFact.mk ?_ trivial
   have : linsOK l = false := by unfold linsOK; rw [nmdB_bad hlt (.inr ((hmem _).1 (of_decide_eq_true hd)))]; rfl
   rw [this]
  have hd := of_decide_eq_false hd
  refine VFn.p (lineID_fn (gli l i).id _ M2) ?_
  refine VFact.mk ⟨⟨rfl, rfl, rfl⟩, h64, by omega⟩ ?_
  refine VArith.ok (by first | omega | (simp only; omega)) (by first | omega | (simp only; omega)) ?_
  refine ⟨(i + 1, (gli l i).id :: ks, M2), ⟨⟨hM1.trans hM2, hlt, by simp [hks]⟩, fun x => ?_, fun j hj => ?_⟩, (by first | omega | (simp only; omega)), (Wk.mk' id (by repeat' constructor) (by repeat' constructor) (injOK_id _) rfl rfl rfl)⟩
  ·rw [List.mem_cons, hmem]
   constructor
   ·rintro (rfl | ⟨j, hj, e⟩)
    ·exact ⟨i, Nat.lt_succ_self _, rfl⟩
    ·exact ⟨j, by omega, e⟩
   ·rintro ⟨j, hj, e⟩
    by_cases ej : j = i
    ·subst ej; exact .inl e.symm
    ·exact .inr ⟨j, by omega, e⟩
  ·by_cases ej : j = i
   ·subst ej
    exact ⟨hr, fun k hk e => hd ((hmem _).2 ⟨k, hk, e⟩)⟩
   ·exact hok j (by omega)
 ·have : i = l.length := by have := ge_of_dec hge; omega
  subst this
  refine VFact.mk ?_ trivial
  have : linsOK l = decide (l.length ≤ 50) := by unfold linsOK; rw [nmdB_iff.2 hok, Bool.true_and]
  rw [this]
  exact bool1 (by simp only [decide_eq_true_eq]; omega)
end Go.Proofs.YtcdlplobniogpaaGreat
namespace Go.Proofs.YtcdlplobniogpaaGreat
open Go Go.V Go.RowKit
theorem idOK_iff {n : Int} : idOK n = true ↔ 1 ≤ n ∧ n ≤ 1000000 := by unfold idOK; exact decide_eq_true_iff
theorem mulb {a b : Int} (A B : Int) (ha : 0 ≤ a ∧ a ≤ A) (hb : 0 ≤ b ∧ b ≤ B) : 0 ≤ a * b ∧ a * b ≤ A * B :=
 ⟨Int.mul_nonneg ha.1 hb.1, Int.mul_le_mul ha.2 hb.2 hb.1 (by omega)⟩
set_option maxRecDepth 20000 in
set_option maxHeartbeats 2000000 in
theorem chValid_fn (c : ChartS) (a b d : Value) (M : Mem) (h : Cha M c a b d) : V.Fn Tryz.prog 54 [chV c a b d] M fun rs _ => rs = [.bool (validC c)] := by
 obtain ⟨⟨ad, ka, rfl⟩, ⟨bd, kb, rfl⟩, dd, kd, rfl⟩ := h.shape
 obtain ⟨r1, r2, r3, r4, r5, r6⟩ := h.r
 unfold i64r at r1 r2 r3 r4 r5 r6
 have hcl : c.cs.length ≤ 9223372036854775807 := by obtain ⟨_, _, _, q, _⟩ := h.cs.get; exact q
 refine Fn.of_vc cxOK Tryz.func54 rfl rfl rfl ?_
 refine VFn.p (isID_fn _ _) ?_
 refine VIf.mk (fun e => ?_) (fun e => ?_)
 ·have e : ¬ (1 ≤ c.ver ∧ c.ver ≤ 1000000) := fun h => by rw [idOK_iff.2 h] at e; cases e
  repeat (first | refine VIf.tt ?_ | refine VIf.ff ?_)
  exact VFact.mk (by rw [validC_not (fun h => e h.1.1)]) trivial
 have e0 := idOK_iff.1 ((Bool.not_eq_false' _).mp e)
 clear e
 repeat (first | refine VIf.tt ?_ | refine VIf.ff ?_)
 refine VIf.mk (fun e1 => ?_) (fun e1 => ?_)
 ·have e := of_decide_eq_true e1
  repeat (first | refine VIf.tt ?_ | refine VIf.ff ?_)
  exact VFact.mk (by rw [validC_not (fun h => by unfold frameC at h; omega)]) trivial
 have e1 := of_decide_eq_false e1
 repeat (first | refine VIf.tt ?_ | refine VIf.ff ?_)
 refine VIf.mk (fun e2 => ?_) (fun e2 => ?_)
 ·have e := of_decide_eq_true e2
  repeat (first | refine VIf.tt ?_ | refine VIf.ff ?_)
  exact VFact.mk (by rw [validC_not (fun h => by unfold frameC at h; omega)]) trivial
 have e2 := of_decide_eq_false e2
 repeat (first | refine VIf.tt ?_ | refine VIf.ff ?_)
 refine VIf.mk (fun e3 => ?_) (fun e3 => ?_)
 ·have e := of_decide_eq_true e3
  repeat (first | refine VIf.tt ?_ | refine VIf.ff ?_)
  exact VFact.mk (by rw [validC_not (fun h => by unfold frameC at h; omega)]) trivial
 have e3 := of_decide_eq_false e3
 repeat (first | refine VIf.tt ?_ | refine VIf.ff ?_)
 refine VIf.mk (fun e4 => ?_) (fun e4 => ?_)
 ·have e := of_decide_eq_true e4
  repeat (first | refine VIf.tt ?_ | refine VIf.ff ?_)
  exact VFact.mk (by rw [validC_not (fun h => by unfold frameC at h; omega)]) trivial
 have e4 := of_decide_eq_false e4
 have hwh := mulb (a := c.w) (b := c.h) 4000 4000 (by omega) (by omega)
 repeat (first | refine VIf.tt ?_ | refine VIf.ff ?_)
 refine VArith.ok (by first | omega | (simp only; omega)) (by first | omega | (simp only; omega)) ?_
 repeat (first | refine VIf.tt ?_ | refine VIf.ff ?_)
 refine VIf.mk (fun e5 => ?_) (fun e5 => ?_)
 ·have e : c.w * c.h ≠ c.cs.length := fun e => by simp [e] at e5
  repeat (first | refine VIf.tt ?_ | refine VIf.ff ?_)
  exact VFact.mk (by rw [validC_not (fun h => by unfold frameC at h; omega)]) trivial
 have e5 : c.w * c.h = c.cs.length := by simpa using e5
 repeat (first | refine VIf.tt ?_ | refine VIf.ff ?_)
 refine VIf.mk (fun e6 => ?_) (fun e6 => ?_)
 ·have e := of_decide_eq_true e6
  repeat (first | refine VIf.tt ?_ | refine VIf.ff ?_)
  exact VFact.mk (by rw [validC_not (fun h => by unfold frameC at h; omega)]) trivial
 have e6 := of_decide_eq_false e6
 repeat (first | refine VIf.tt ?_ | refine VIf.ff ?_)
 refine VIf.mk (fun e7 => ?_) (fun e7 => ?_)
 ·have e := of_decide_eq_true e7
  repeat (first | refine VIf.tt ?_ | refine VIf.ff ?_)
  exact VFact.mk (by rw [validC_not (fun h => by unfold frameC at h; omega)]) trivial
 have e7 := of_decide_eq_false e7
 repeat (first | refine VIf.tt ?_ | refine VIf.ff ?_)
 refine VIf.mk (fun e8 => ?_) (fun e8 => ?_)
 ·have e := of_decide_eq_true e8
  exact VFact.mk (by rw [validC_not (fun h => by unfold frameC at h; omega)]) trivial
 have e8 := of_decide_eq_false e8
 refine VFn.mk _ (chartPlace_fn (c.x, c.y) _ h.r.2.1 h.r.2.2.1) ?_
 rintro rs M1 hM1 rfl
 refine VIf.mk (fun e9 => ?_) (fun e9 => ?_)
 ·repeat (first | refine VIf.tt ?_ | refine VIf.ff ?_)
  exact VFact.mk (by rw [validC_not (fun h => by rw [h.2.1] at e9; cases e9)]) trivial
 have e9 : placeB (c.x, c.y) = true := (Bool.not_eq_false' _).mp e9
 have hxy := e9
 simp only [placeB, Bool.and_eq_true] at hxy
 have b1 := isCb_bd hxy.1
 have b2 := isCb_bd hxy.2
 have hws := mulb (a := c.w) (b := c.sz) 4000 10000 (by omega) (by omega)
 have hhs := mulb (a := c.h) (b := c.sz) 4000 10000 (by omega) (by omega)
 repeat (first | refine VIf.tt ?_ | refine VIf.ff ?_)
 refine VArith.ok (by first | omega | (simp only; omega)) (by first | omega | (simp only; omega)) ?_
 repeat (first | refine VIf.tt ?_ | refine VIf.ff ?_)
 refine VArith.ok (by first | omega | (simp only; omega)) (by first | omega | (simp only; omega)) ?_
 repeat (first | refine VIf.tt ?_ | refine VIf.ff ?_)
 refine VArith.ok (by first | omega | (simp only; omega)) (by first | omega | (simp only; omega)) ?_
 repeat (first | refine VIf.tt ?_ | refine VIf.ff ?_)
 refine VArith.ok (by first | omega | (simp only; omega)) (by first | omega | (simp only; omega)) ?_
 repeat (first | refine VIf.tt ?_ | refine VIf.ff ?_)
 refine VArith.ok (by first | omega | (simp only; omega)) (by first | omega | (simp only; omega)) ?_
 repeat (first | refine VIf.tt ?_ | refine VIf.ff ?_)
 refine VArith.ok (by first | omega | (simp only; omega)) (by first | omega | (simp only; omega)) ?_
 repeat (first | refine VIf.tt ?_ | refine VIf.ff ?_)
 refine VFn.mk _ (chartPlace_fn (c.x + c.w * c.sz - 1, c.y + c.h * c.sz - 1) _ ⟨by simp only; omega, by simp only; omega⟩ ⟨by simp only; omega, by simp only; omega⟩) ?_
 rintro rs M2 hM2 rfl
 repeat (first | refine VIf.tt ?_ | refine VIf.ff ?_)
 refine VIf.mk (fun e10 => ?_) (fun e10 => ?_)
 ·exact VFact.mk (by rw [validC_not (fun h => by rw [h.2.2] at e10; cases e10)]) trivial
 have e10 : placeB (c.x + c.w * c.sz - 1, c.y + c.h * c.sz - 1) = true := (Bool.not_eq_false' _).mp e10
 have hF : frameC c := ⟨by omega, e9, e10⟩
 have hE : validC c = (c.cs.all cellOK && beasOK c.bs && linsOK c.ls) := by unfold validC; rw [decide_eq_true hF, Bool.true_and]
 rw [hE]
 have m2 := hM1.trans hM2
 refine VFn.mk _ (ContainsCe_fn _ c.cs M2 (h.cs.le m2)) ?_
 rintro rs M3 hM3 rfl
 refine VIf.mk (fun e11 => ?_) (fun e11 => ?_)
 ·have e11 : c.cs.all cellOK = false := (Bool.not_eq_true' _).mp e11
  exact VFact.mk (by rw [e11]; rfl) trivial
 have e11 : c.cs.all cellOK = true := (Bool.not_eq_false' _).mp e11
 rw [e11, Bool.true_and]
 refine VFn.mk _ (namedBea_fn _ c.bs M3 (h.bs.le (m2.trans hM3))) ?_
 rintro rs M4 hM4 rfl
 refine VIf.mk (fun e12 => ?_) (fun e12 => ?_)
 ·rw [e12, Bool.true_and]
  repeat (first | refine VIf.tt ?_ | refine VIf.ff ?_)
  refine VFn.mk _ (namedLin_fn _ c.ls M4 (h.ls.le ((m2.trans hM3).trans hM4))) ?_
  rintro rs M5 hM5 rfl
  repeat (first | refine VIf.tt ?_ | refine VIf.ff ?_)
  exact VFact.mk rfl trivial
 ·rw [e12]
  repeat (first | refine VIf.tt ?_ | refine VIf.ff ?_)
  exact VFact.mk rfl trivial
end Go.Proofs.YtcdlplobniogpaaGreat
namespace Go.Proofs.YtcdlplobniogpaaGreat
open Go
def rgI (a b : Int) : List Int := (List.range (b + 1 - a).toNat).map fun k : Nat => a + (k : Int)
theorem rgI_mem {a b x : Int} : x ∈ rgI a b ↔ a ≤ x ∧ x ≤ b := by
 unfold rgI
 simp only [List.mem_map, List.mem_range]
 constructor
 ·rintro ⟨k, hk, rfl⟩; omega
 ·intro h; exact ⟨(x - a).toNat, by omega, by omega⟩
theorem rgI_nil {a b : Int} (h : b < a) : rgI a b = [] := by
 unfold rgI
 rw [show (b + 1 - a).toNat = 0 by omega]; rfl
theorem rgI_cons {a b : Int} (h : a ≤ b) : rgI a b = a :: rgI (a + 1) b := by
 unfold rgI
 rw [show (b + 1 - a).toNat = (b + 1 - (a + 1)).toNat + 1 by omega, List.range_succ_eq_map, List.map_cons, List.map_map]
 congr 1
 ·omega
 ·apply List.map_congr_left
  intro k _
  simp only [Function.comp]; omega
theorem rgI_lt (a b : Int) : (rgI a b).Pairwise (· < ·) := by
 unfold rgI
 refine List.pairwise_map.2 ((List.pairwise_lt_range).imp fun {i j} h => ?_)
 omega
theorem sorted_ext {l r : List Int} (hl : l.Pairwise (· < ·)) (hr : r.Pairwise (· < ·)) (h : ∀ x, x ∈ l ↔ x ∈ r) : l = r := by
 have nl : l.Nodup := hl.imp fun h => by omega
 have nr : r.Nodup := hr.imp fun h => by omega
 refine List.Perm.eq_of_pairwise (le := fun a b => a < b) (fun a b _ _ h1 h2 => by omega) hl hr ((List.perm_ext_iff_of_nodup nl nr).2 h)
def rowC (w x1 x2 y : Int) : List Int := (rgI x1 x2).map fun x => y * w + x
def rowsC (w x1 x2 y1 y2 : Int) : List Int := (rgI y1 y2).flatMap fun y => rowC w x1 x2 y
theorem rowC_cons {w x1 x2 y : Int} (h : x1 ≤ x2) : rowC w x1 x2 y = (y * w + x1) :: rowC w (x1 + 1) x2 y := by unfold rowC; rw [rgI_cons h]; rfl
theorem rowC_nil {w x1 x2 y : Int} (h : x2 < x1) : rowC w x1 x2 y = [] := by unfold rowC; rw [rgI_nil h]; rfl
theorem rowsC_cons {w x1 x2 y1 y2 : Int} (h : y1 ≤ y2) : rowsC w x1 x2 y1 y2 = rowC w x1 x2 y1 ++ rowsC w x1 x2 (y1 + 1) y2 := by unfold rowsC; rw [rgI_cons h]; rfl
theorem rowsC_nil {w x1 x2 y1 y2 : Int} (h : y2 < y1) : rowsC w x1 x2 y1 y2 = [] := by unfold rowsC; rw [rgI_nil h]; rfl
theorem rowsC_mem {w x1 x2 y1 y2 i : Int} : i ∈ rowsC w x1 x2 y1 y2 ↔ ∃ y x, (y1 ≤ y ∧ y ≤ y2) ∧ (x1 ≤ x ∧ x ≤ x2) ∧ i = y * w + x := by
 unfold rowsC rowC
 simp only [List.mem_flatMap, List.mem_map, rgI_mem]
 constructor
 ·rintro ⟨y, hy, x, hx, rfl⟩; exact ⟨y, x, hy, hx, rfl⟩
 ·rintro ⟨y, x, hy, hx, rfl⟩; exact ⟨y, hy, x, hx, rfl⟩
theorem rowsC_lt {w x1 x2 y1 y2 : Int} (h1 : 0 ≤ x1) (h2 : x2 ≤ w - 1) (hw : 0 ≤ w) : (rowsC w x1 x2 y1 y2).Pairwise (· < ·) := by
 unfold rowsC
 rw [List.pairwise_flatMap]
 refine ⟨fun y _ => ?_, (rgI_lt y1 y2).imp fun {y y'} hy i hi j hj => ?_⟩
 ·unfold rowC
  exact List.pairwise_map.2 ((rgI_lt x1 x2).imp fun {i j} h => by omega)
 ·unfold rowC at hi hj
  simp only [List.mem_map, rgI_mem] at hi hj
  obtain ⟨x, hx, rfl⟩ := hi
  obtain ⟨x', hx', rfl⟩ := hj
  have := Int.mul_le_mul_of_nonneg_right (show y + 1 ≤ y' by omega) hw
  rw [Int.add_mul] at this
  omega
theorem colC_le {fr sz p x : Int} (hs : 1 ≤ sz) (hx : 0 ≤ x) : (fr + x * sz ≤ p ↔ x ≤ colC fr sz p) ∧ (p ≤ fr + x * sz + sz - 1 ↔ colC fr sz p ≤ x) := by
 have h0 := Int.mul_nonneg hx (show 0 ≤ sz by omega)
 unfold colC
 split
 ·omega
 ·rename_i h
  rw [Int.tdiv_eq_ediv_of_nonneg (by omega)]
  have a1 := Int.ediv_mul_le (p - fr) (show sz ≠ 0 by omega)
  have a2 := Int.lt_ediv_add_one_mul_self (p - fr) (show 0 < sz by omega)
  generalize (p - fr) / sz = q at *
  rw [Int.add_mul] at a2
  by_cases hq : x ≤ q
  ·have b1 := Int.mul_le_mul_of_nonneg_right hq (show 0 ≤ sz by omega)
   refine ⟨⟨fun _ => hq, fun _ => by omega⟩, ⟨fun hp => ?_, fun hp => ?_⟩⟩
   ·refine Int.not_lt.1 fun hlt => ?_
    have b2 := Int.mul_le_mul_of_nonneg_right (show x + 1 ≤ q by omega) (show 0 ≤ sz by omega)
    rw [Int.add_mul] at b2
    omega
   ·have : x = q := by omega
    subst this; omega
  ·have b1 := Int.mul_le_mul_of_nonneg_right (show q + 1 ≤ x by omega) (show 0 ≤ sz by omega)
   rw [Int.add_mul] at b1
   omega
theorem decode {w y x : Int} (hy : 0 ≤ y) (hx : 0 ≤ x) (hw : x < w) : (y * w + x).tdiv w = y ∧ (y * w + x).tmod w = x := by
 have h0 := Int.mul_nonneg hy (show 0 ≤ w by omega)
 rw [Int.tdiv_eq_ediv_of_nonneg (by omega), Int.tmod_eq_emod_of_nonneg (by omega), Int.add_comm, Int.add_mul_ediv_right _ _ (by omega), Int.add_mul_emod_self_right, Int.ediv_eq_zero_of_lt hx hw, Int.emod_eq_of_lt hx hw]
 omega
theorem encode {w i : Int} (hi : 0 ≤ i) (hw : 0 < w) : 0 ≤ i.tdiv w ∧ 0 ≤ i.tmod w ∧ i.tmod w < w ∧ i = i.tdiv w * w + i.tmod w := by
 rw [Int.tdiv_eq_ediv_of_nonneg hi, Int.tmod_eq_emod_of_nonneg hi]
 have h1 := Int.emod_add_mul_ediv i w
 rw [Int.mul_comm] at h1
 exact ⟨Int.ediv_nonneg hi (by omega), Int.emod_nonneg _ (by omega), Int.emod_lt_of_pos _ hw, by omega⟩
def xLo (c : ChartS) (lo : Pt) : Int := max 0 (colC c.x c.sz lo.1)
def xHi (c : ChartS) (hi : Pt) : Int := min (c.w - 1) (colC c.x c.sz hi.1)
def yLo (c : ChartS) (lo : Pt) : Int := max 0 (colC c.y c.sz lo.2)
def yHi (c : ChartS) (hi : Pt) : Int := min (c.h - 1) (colC c.y c.sz hi.2)
theorem underC_mem {c : ChartS} {lo hi : Pt} {i : Int} : i ∈ underC c lo hi ↔ (0 ≤ i ∧ i < c.cs.length) ∧ meetsP lo hi (bLo c i) (bHi c i) = true := by
 unfold underC unC
 simp only [List.mem_map, List.mem_filter, List.mem_range]
 constructor
 ·rintro ⟨k, ⟨hk, hm⟩, rfl⟩; exact ⟨by omega, hm⟩
 ·rintro ⟨h, hm⟩
  exact ⟨i.toNat, ⟨by omega, by rw [Int.toNat_of_nonneg h.1]; exact hm⟩, by omega⟩
theorem unC_lt (c : ChartS) (lo hi : Pt) (k : Nat) : (unC c lo hi k).Pairwise (· < ·) := by
 unfold unC
 exact List.pairwise_map.2 ((List.pairwise_lt_range.filter _).imp fun {i j} h => by omega)
theorem bLo_in {c : ChartS} {y x : Int} (hy : 0 ≤ y) (hx : 0 ≤ x) (hw : x < c.w) : bLo c (y * c.w + x) = (c.x + x * c.sz, c.y + y * c.sz) := by
 obtain ⟨h1, h2⟩ := decode hy hx hw
 unfold bLo; rw [h1, h2]
theorem rows_under {c : ChartS} (h : frameC c) (lo hi : Pt) : rowsC c.w (xLo c lo) (xHi c hi) (yLo c lo) (yHi c hi) = underC c lo hi := by
 unfold frameC at h
 refine sorted_ext (rowsC_lt (by unfold xLo; omega) (by unfold xHi; omega) (by omega)) (unC_lt _ _ _ _) fun i => ?_
 rw [underC_mem, rowsC_mem]
 constructor
 ·rintro ⟨y, x, ⟨a1, a2⟩, ⟨a3, a4⟩, rfl⟩
  unfold yLo at a1; unfold yHi at a2; unfold xLo at a3; unfold xHi at a4
  have hx : 0 ≤ x := by omega
  have hy : 0 ≤ y := by omega
  have m1 := Int.mul_nonneg hy (show 0 ≤ c.w by omega)
  have m2 := Int.mul_le_mul_of_nonneg_right (show y + 1 ≤ c.h by omega) (show 0 ≤ c.w by omega)
  rw [Int.add_mul, Int.mul_comm c.h] at m2
  have e := bLo_in hy hx (show x < c.w by omega)
  obtain ⟨b1, b2⟩ := colC_le (fr := c.x) (p := lo.1) (show 1 ≤ c.sz by omega) hx
  obtain ⟨b3, b4⟩ := colC_le (fr := c.x) (p := hi.1) (show 1 ≤ c.sz by omega) hx
  obtain ⟨b5, b6⟩ := colC_le (fr := c.y) (p := lo.2) (show 1 ≤ c.sz by omega) hy
  obtain ⟨b7, b8⟩ := colC_le (fr := c.y) (p := hi.2) (show 1 ≤ c.sz by omega) hy
  refine ⟨by omega, ?_⟩
  unfold meetsP bHi
  rw [e]
  simp only [Bool.and_eq_true, decide_eq_true_eq]
  exact ⟨⟨⟨b2.2 (by omega), b3.2 (by omega)⟩, b6.2 (by omega)⟩, b7.2 (by omega)⟩
 ·rintro ⟨⟨i0, i1⟩, hm⟩
  obtain ⟨q1, q2, q3, q4⟩ := encode i0 (show 0 < c.w by omega)
  have e := bLo_in q1 q2 q3
  rw [← q4] at e
  unfold meetsP bHi at hm
  rw [e] at hm
  simp only [Bool.and_eq_true, decide_eq_true_eq] at hm
  generalize i.tdiv c.w = y at *
  generalize i.tmod c.w = x at *
  obtain ⟨b1, b2⟩ := colC_le (fr := c.x) (p := lo.1) (show 1 ≤ c.sz by omega) q2
  obtain ⟨b3, b4⟩ := colC_le (fr := c.x) (p := hi.1) (show 1 ≤ c.sz by omega) q2
  obtain ⟨b5, b6⟩ := colC_le (fr := c.y) (p := lo.2) (show 1 ≤ c.sz by omega) q1
  obtain ⟨b7, b8⟩ := colC_le (fr := c.y) (p := hi.2) (show 1 ≤ c.sz by omega) q1
  have c1 := b2.1 hm.1.1.1
  have c2 := b3.1 hm.1.1.2
  have c3 := b6.1 hm.1.2
  have c4 := b7.1 hm.2
  have hyh : y ≤ c.h - 1 := by
   refine Int.not_lt.1 fun hlt => ?_
   have := Int.mul_le_mul_of_nonneg_right (show c.h ≤ y by omega) (show 0 ≤ c.w by omega)
   rw [Int.mul_comm c.h] at this
   omega
  refine ⟨y, x, ⟨by unfold yLo; omega, by unfold yHi; omega⟩, ⟨by unfold xLo; omega, by unfold xHi; omega⟩, q4⟩
end Go.Proofs.YtcdlplobniogpaaGreat
namespace Go.Proofs.YtcdlplobniogpaaGreat
open Go Go.V Go.RowKit
theorem column_fn (fr sz x : Int) (M : Mem) (h1 : -1000000 ≤ fr ∧ fr ≤ 1000000) (h2 : -1000000 ≤ x ∧ x ≤ 1000000) (h3 : 1 ≤ sz) : FnP Tryz.prog 142 [.int .i64 fr, .int .i64 sz, .int .i64 x] M [.int .i64 (colC fr sz x)] := by
 refine Fn.of_vc cxOK Tryz.func142 rfl rfl rfl ?_
 refine VIf.mk (fun h => ?_) (fun h => ?_)
 ·have h := of_decide_eq_true h
  refine VFact.mk ⟨?_, rfl⟩ trivial
  unfold colC; rw [if_pos h]
 ·have h := of_decide_eq_false h
  have hd : 0 ≤ (x - fr).tdiv sz ∧ (x - fr).tdiv sz ≤ x - fr := by
   rw [Int.tdiv_eq_ediv_of_nonneg (by omega)]
   exact ⟨Int.ediv_nonneg (by omega) (by omega), Int.ediv_le_self _ (by omega)⟩
  refine VArith.ok (by first | omega | (simp only; omega)) (by first | omega | (simp only; omega)) ?_
  refine VDiv.mk (by omega) ?_
  refine VArith.ok (by first | omega | (simp only; omega)) (by first | omega | (simp only; omega)) ?_
  refine VFact.mk ⟨?_, rfl⟩ trivial
  unfold colC; rw [if_neg h]
theorem col_bd {fr sz x : Int} (h1 : -1000000 ≤ fr ∧ fr ≤ 1000000) (h2 : -1000000 ≤ x ∧ x ≤ 1000000) (h3 : 1 ≤ sz) : -1 ≤ colC fr sz x ∧ colC fr sz x ≤ 2000000 := by
 unfold colC
 split
 ·omega
 ·have hd : 0 ≤ (x - fr).tdiv sz ∧ (x - fr).tdiv sz ≤ x - fr := by
   rw [Int.tdiv_eq_ediv_of_nonneg (by omega)]
   exact ⟨Int.ediv_nonneg (by omega) (by omega), Int.ediv_le_self _ (by omega)⟩
  omega
def chC (c : ChartS) (a b d : Value) : Array Value := #[.int .i64 c.ver, .int .i64 c.x, .int .i64 c.y, .int .i64 c.w, .int .i64 c.h, .int .i64 c.sz, a, b, d]
theorem under_fn (c : ChartS) (a b d : Value) (lo hi : Pt) (M : Mem) (h : Cha M c a b d) : V.Fn Tryz.prog 98 [chV c a b d, ptv lo, ptv hi] M fun rs M' => ∃ B1 B2 B3,
  rs = [.func (.func 141) #[] #[.pointer (some ⟨B1, 0, none⟩), .pointer (some ⟨B2, 0, none⟩), .pointer (some ⟨B3, 0, none⟩)]] ∧
  M' B1 = some (.cells (chC c a b d) 26 (0, 0)) ∧ M' B2 = some (.cells #[.int .i64 lo.1, .int .i64 lo.2] 44 (0, 0)) ∧ M' B3 = some (.cells #[.int .i64 hi.1, .int .i64 hi.2] 44 (0, 0)) := by
 obtain ⟨⟨ad, ka, rfl⟩, ⟨bd, kb, rfl⟩, dd, kd, rfl⟩ := h.shape
 refine Fn.of_vc cxOK Tryz.func98 rfl rfl rfl ?_
 refine VFzB.mk fun z1 B1 M1 hM1 hB1 => ?_
 refine VFzB.mk fun z2 B2 M2 hM2 hB2 => ?_
 refine VFzB.mk fun z3 B3 M3 hM3 hB3 => ?_
 exact VFact.mk ⟨B1, B2, B3, rfl, hM3 _ _ (hM2 _ _ hB1), hM3 _ _ hB2, hB3⟩ trivial
set_option maxRecDepth 20000 in
set_option maxHeartbeats 2000000 in
theorem under_iter (c : ChartS) (a b d : Value) (lo hi : Pt) (M : Mem) (hF : frameC c) (h1 : placeB lo = true) (h2 : placeB hi = true) (B1 B2 B3 : Nat)
  (hB1 : M B1 = some (.cells (chC c a b d) 26 (0, 0))) (hB2 : M B2 = some (.cells #[.int .i64 lo.1, .int .i64 lo.2] 44 (0, 0))) (hB3 : M B3 = some (.cells #[.int .i64 hi.1, .int .i64 hi.2] 44 (0, 0))) :
  Iter Tryz.prog 141 #[.pointer (some ⟨B1, 0, none⟩), .pointer (some ⟨B2, 0, none⟩), .pointer (some ⟨B3, 0, none⟩)] M ((underC c lo hi).map fun i => [.int .i64 i]) := by
 rw [← rows_under hF]
 simp only [placeB, Bool.and_eq_true] at h1 h2
 have a1 := isCb_bd h1.1
 have a2 := isCb_bd h1.2
 have a3 := isCb_bd h2.1
 have a4 := isCb_bd h2.2
 obtain ⟨f1, f2, f3⟩ := hF
 simp only [placeB, Bool.and_eq_true] at f2
 have a5 := isCb_bd f2.1
 have a6 := isCb_bd f2.2
 have k1 := col_bd (fr := c.y) (sz := c.sz) (x := lo.2) (by omega) (by omega) (by omega)
 have k2 := col_bd (fr := c.y) (sz := c.sz) (x := hi.2) (by omega) (by omega) (by omega)
 have k3 := col_bd (fr := c.x) (sz := c.sz) (x := lo.1) (by omega) (by omega) (by omega)
 have k4 := col_bd (fr := c.x) (sz := c.sz) (x := hi.1) (by omega) (by omega) (by omega)
 refine Iter.of_vc cxOK Tryz.func141 rfl rfl rfl rfl fun l => ?_
 refine VRead.mk (.int .i64 c.y) (cellAt hB1 2 rfl) ?_
 refine VRead.mk (.int .i64 c.sz) (cellAt hB1 5 rfl) ?_
 refine VRead.mk (.int .i64 lo.2) (cellAt hB2 1 rfl) ?_
 refine VFn.p (column_fn c.y c.sz lo.2 M (by omega) (by omega) (by omega)) ?_
 refine VCode.loopG cxOK (fun m => m = fun _ => none) rfl Int
  (fun y => ⟨[(0, .v (.func (.yield l) #[] #[])), (1, .v (.pointer (some ⟨B1, 0, none⟩))), (2, .v (.pointer (some ⟨B2, 0, none⟩))), (3, .v (.pointer (some ⟨B3, 0, none⟩))), (5, .v (.int .i64 y))],
   [], 0, M, 62, ⟨fun _ => none, some (l, (rowsC c.w (xLo c lo) (xHi c hi) y (yHi c hi)).map fun i => [.int .i64 i]), fun _ => none⟩⟩)
  (fun y => 0 ≤ y ∧ y ≤ 3000000) (fun y => (yHi c hi + 1 - y).toNat) (yLo c lo) ⟨by unfold yLo; omega, by unfold yLo; omega⟩ (Wk.mk' id (by repeat' constructor) (by repeat' constructor) (injOK_id _) rfl rfl rfl) ?_
 rintro y ⟨hy1, hy2⟩ m rfl
 refine VDraw.go (by kernel_rfl) ?_
 refine VRead.mk (.int .i64 c.h) (cellAt hB1 4 rfl) ?_
 refine VArith.ok (by first | omega | (simp only; omega)) (by first | omega | (simp only; omega)) ?_
 refine VRead.mk (.int .i64 c.y) (cellAt hB1 2 rfl) ?_
 refine VRead.mk (.int .i64 c.sz) (cellAt hB1 5 rfl) ?_
 refine VRead.mk (.int .i64 hi.2) (cellAt hB3 1 rfl) ?_
 refine VFn.p (column_fn c.y c.sz hi.2 M (by omega) (by omega) (by omega)) ?_
 refine VIf.mk (fun hle => ?_) (fun hgt => ?_)
 ·have hle : y ≤ yHi c hi := of_decide_eq_true hle
  have hyh : y ≤ c.h - 1 := by unfold yHi at hle; omega
  refine VRead.mk (.int .i64 c.x) (cellAt hB1 1 rfl) ?_
  refine VRead.mk (.int .i64 c.sz) (cellAt hB1 5 rfl) ?_
  refine VRead.mk (.int .i64 lo.1) (cellAt hB2 0 rfl) ?_
  refine VFn.p (column_fn c.x c.sz lo.1 M (by omega) (by omega) (by omega)) ?_
  refine VCode.loopG cxOK (fun m => m = fun _ => none) rfl Int
   (fun x => ⟨[(0, .v (.func (.yield l) #[] #[])), (1, .v (.pointer (some ⟨B1, 0, none⟩))), (2, .v (.pointer (some ⟨B2, 0, none⟩))), (3, .v (.pointer (some ⟨B3, 0, none⟩))), (5, .v (.int .i64 y)), (6, .v (.int .i64 x))],
    [], 0, M, 62, ⟨fun _ => none, some (l, (rowC c.w x (xHi c hi) y ++ rowsC c.w (xLo c lo) (xHi c hi) (y + 1) (yHi c hi)).map fun i => [.int .i64 i]), fun _ => none⟩⟩)
   (fun x => 0 ≤ x ∧ x ≤ 3000000) (fun x => (xHi c hi + 1 - x).toNat) (xLo c lo) ⟨by unfold xLo; omega, by unfold xLo; omega⟩ ?_ ?_
  ·refine Wk.mk' id (by repeat' constructor) (by repeat' constructor) (injOK_id _) rfl rfl ?_
   show some ((l : Lp), _) = some ((l : Lp), _)
   rw [rowsC_cons hle]
  rintro x ⟨hx1, hx2⟩ m rfl
  refine VDraw.go (by kernel_rfl) ?_
  refine VRead.mk (.int .i64 c.w) (cellAt hB1 3 rfl) ?_
  refine VArith.ok (by first | omega | (simp only; omega)) (by first | omega | (simp only; omega)) ?_
  refine VRead.mk (.int .i64 c.x) (cellAt hB1 1 rfl) ?_
  refine VRead.mk (.int .i64 c.sz) (cellAt hB1 5 rfl) ?_
  refine VRead.mk (.int .i64 hi.1) (cellAt hB3 0 rfl) ?_
  refine VFn.p (column_fn c.x c.sz hi.1 M (by omega) (by omega) (by omega)) ?_
  refine VIf.mk (fun hlx => ?_) (fun hgx => ?_)
  ·have hlx : x ≤ xHi c hi := of_decide_eq_true hlx
   have hxw : x ≤ c.w - 1 := by unfold xHi at hlx; omega
   refine VRead.mk (.int .i64 c.w) (cellAt hB1 3 rfl) ?_
   have hyw := mulb (a := y) (b := c.w) 4000 4000 (by omega) (by omega)
   refine VArith.ok (by first | omega | (simp only; omega)) (by first | omega | (simp only; omega)) ?_
   refine VArith.ok (by first | omega | (simp only; omega)) (by first | omega | (simp only; omega)) ?_
   refine VYield.mk ((rowC c.w (x + 1) (xHi c hi) y ++ rowsC c.w (xLo c lo) (xHi c hi) (y + 1) (yHi c hi)).map fun i => [.int .i64 i]) ?_ ?_ ?_
   ·simp only [Gh.mk.injEq, and_true, true_and, Option.some.injEq, Prod.mk.injEq]
    rw [rowC_cons hlx]; rfl
   ·refine VIf.ff ?_
    refine VArith.ok (by first | omega | (simp only; omega)) (by first | omega | (simp only; omega)) ?_
    exact ⟨rfl, x + 1, ⟨by omega, by omega⟩, by first | omega | (simp only; omega), (Wk.mk' id (by repeat' constructor) (by repeat' constructor) (injOK_id _) rfl rfl rfl)⟩
   ·refine VIf.tt ?_
    exact VEnd.stop rfl
  ·have hgx : ¬ x ≤ xHi c hi := of_decide_eq_false hgx
   refine VArith.ok (by first | omega | (simp only; omega)) (by first | omega | (simp only; omega)) ?_
   refine ⟨rfl, y + 1, ⟨by omega, by omega⟩, by first | omega | (simp only; omega), ?_⟩
   refine Wk.mk' id (by repeat' constructor) (by repeat' constructor) (injOK_id _) rfl rfl ?_
   show some ((l : Lp), _) = some ((l : Lp), _)
   rw [rowC_nil (by omega)]; rfl
 ·have hgt : ¬ y ≤ yHi c hi := of_decide_eq_false hgt
  exact VEnd.all (by rw [rowsC_nil (by omega)]; rfl)
end Go.Proofs.YtcdlplobniogpaaGreat
namespace Go.Proofs.YtcdlplobniogpaaGreat
open Go Go.V Go.RowKit
def sqOK (c : ChartS) (i : Int) : Bool := validC c && decide (0 ≤ i ∧ i < c.cs.length)
theorem sq_bd {c : ChartS} (h : frameC c) {i : Int} (hi : 0 ≤ i ∧ i < c.cs.length) : ((0 ≤ i.tmod c.w * c.sz ∧ i.tmod c.w * c.sz ≤ 40000000) ∧ 0 ≤ i.tdiv c.w * c.sz ∧ i.tdiv c.w * c.sz ≤ 40000000) ∧ placeB (bLo c i) = true ∧ placeB (bHi c i) = true := by
 obtain ⟨f1, f2, f3⟩ := h
 obtain ⟨e1, e2, e3, e4⟩ := encode hi.1 (show 0 < c.w by omega)
 have hyh : i.tdiv c.w ≤ c.h - 1 := by
  refine Int.not_lt.1 fun hlt => ?_
  have := Int.mul_le_mul_of_nonneg_right (show c.h ≤ i.tdiv c.w by omega) (show 0 ≤ c.w by omega)
  rw [Int.mul_comm c.h] at this
  omega
 have b2 := place_bd f2
 have b3 := place_bd f3
 simp only at b2 b3
 unfold bHi bLo
 generalize i.tdiv c.w = y at *
 generalize i.tmod c.w = x at *
 have m1 := mulb (a := x) (b := c.sz) 4000 10000 (by omega) (by omega)
 have m2 := mulb (a := y) (b := c.sz) 4000 10000 (by omega) (by omega)
 have m3 := Int.mul_le_mul_of_nonneg_right (show x + 1 ≤ c.w by omega) (show 0 ≤ c.sz by omega)
 have m4 := Int.mul_le_mul_of_nonneg_right (show y + 1 ≤ c.h by omega) (show 0 ≤ c.sz by omega)
 rw [Int.add_mul] at m3 m4
 have pl : ∀ p : Pt, (-500000 ≤ p.1 ∧ p.1 ≤ 500000) → (-500000 ≤ p.2 ∧ p.2 ≤ 500000) → placeB p = true := fun p h1 h2 => by
  simp only [placeB, isCb, Bool.and_eq_true, decide_eq_true_eq]; exact ⟨h1, h2⟩
 refine ⟨⟨by omega, by omega⟩, pl _ ?_ ?_, pl _ ?_ ?_⟩ <;> simp only <;> omega
set_option maxRecDepth 20000 in
set_option maxHeartbeats 2000000 in
theorem Square_fn (c : ChartS) (a b d : Value) (i : Int) (M : Mem) (h : Cha M c a b d) : V.Fn Tryz.prog 68 [chV c a b d, .int .i64 i] M fun rs _ => rs = if sqOK c i = true then [ptv (bLo c i), ptv (bHi c i), .int .i64 0] else [pt 0 0, pt 0 0, .int .i64 1] := by
 have hv := chValid_fn c a b d M h
 obtain ⟨⟨ad, ka, rfl⟩, ⟨bd, kb, rfl⟩, dd, kd, rfl⟩ := h.shape
 refine Fn.of_vc cxOK Tryz.func68 rfl rfl rfl ?_
 refine VFn.mk _ hv ?_
 rintro rs M1 hM1 rfl
 refine VIf.mk (fun e1 => ?_) (fun e1 => ?_)
 ·have e1 := (Bool.not_eq_true' _).mp e1
  repeat (first | refine VIf.tt ?_ | refine VIf.ff ?_)
  refine VDraw.go (by kernel_rfl) ?_
  refine VFact.mk rfl ?_
  refine VFact.mk ?_ trivial
  unfold sqOK; rw [e1]; rfl
 have hV := (Bool.not_eq_false' _).mp e1
 have bad : ¬ (0 ≤ i ∧ i < c.cs.length) → sqOK c i = false := fun h => by unfold sqOK; rw [decide_eq_false h, Bool.and_false]
 repeat (first | refine VIf.tt ?_ | refine VIf.ff ?_)
 refine VIf.mk (fun e2 => ?_) (fun e2 => ?_)
 ·have e2 := of_decide_eq_true e2
  repeat (first | refine VIf.tt ?_ | refine VIf.ff ?_)
  refine VDraw.go (by kernel_rfl) ?_
  refine VFact.mk rfl ?_
  refine VFact.mk ?_ trivial
  rw [bad (by omega)]; rfl
 have e2 := of_decide_eq_false e2
 repeat (first | refine VIf.tt ?_ | refine VIf.ff ?_)
 refine VIf.mk (fun e3 => ?_) (fun e3 => ?_)
 ·have e3 := of_decide_eq_true e3
  refine VDraw.go (by kernel_rfl) ?_
  refine VFact.mk rfl ?_
  refine VFact.mk ?_ trivial
  rw [bad (by omega)]; rfl
 have e3 := of_decide_eq_false e3
 have hF := validC_frame hV
 have hi : 0 ≤ i ∧ i < c.cs.length := by omega
 obtain ⟨⟨m1, m2⟩, p1, p2⟩ := sq_bd hF hi
 have q1 := place_bd p1
 have q2 := place_bd p2
 have b2 := place_bd hF.2.1
 simp only at b2
 have hw : 0 < c.w := by have := hF.1; omega
 have hsz : 1 ≤ c.sz ∧ c.sz ≤ 10000 := by have := hF.1; omega
 obtain ⟨t1, t2, t3, t4⟩ := encode hi.1 hw
 have hok : sqOK c i = true := by unfold sqOK; rw [hV, decide_eq_true hi]; rfl
 rw [hok, if_pos rfl]
 have cl := hF.1
 have q1' : -500000 ≤ c.x + i.tmod c.w * c.sz ∧ c.x + i.tmod c.w * c.sz ≤ 500000 ∧ -500000 ≤ c.y + i.tdiv c.w * c.sz ∧ c.y + i.tdiv c.w * c.sz ≤ 500000 := q1
 have hdv : i.tdiv c.w ≤ 4000 := by
  rw [Int.tdiv_eq_ediv_of_nonneg hi.1]
  exact Int.le_trans (Int.ediv_le_self _ hi.1) (by omega)
 refine VDraw.go (by kernel_rfl) ?_
 refine VDiv.mk (by omega) ?_
 refine VArith.ok (by first | omega | (simp only; omega)) (by first | omega | (simp only; omega)) ?_
 refine VArith.ok (by first | omega | (simp only; omega)) (by first | omega | (simp only; omega)) ?_
 refine VDiv.mk (by omega) ?_
 refine VArith.ok (by first | omega | (simp only; omega)) (by first | omega | (simp only; omega)) ?_
 refine VArith.ok (by first | omega | (simp only; omega)) (by first | omega | (simp only; omega)) ?_
 refine VArith.ok (by first | omega | (simp only; omega)) (by first | omega | (simp only; omega)) ?_
 refine VDraw.go (by kernel_rfl) ?_
 refine VArith.ok (by first | omega | (simp only; omega)) (by first | omega | (simp only; omega)) ?_
 refine VArith.ok (by first | omega | (simp only; omega)) (by first | omega | (simp only; omega)) ?_
 refine VArith.ok (by first | omega | (simp only; omega)) (by first | omega | (simp only; omega)) ?_
 refine VArith.ok (by first | omega | (simp only; omega)) (by first | omega | (simp only; omega)) ?_
 refine VFact.mk rfl ?_
 exact VFact.mk rfl trivial
def tcOK (c : ChartS) (lo hi : Pt) : Bool := validC c && placeB lo && placeB hi && decide (lo.1 ≤ hi.1 ∧ lo.2 ≤ hi.2)
theorem underC_64 {c : ChartS} {lo hi : Pt} (hl : c.cs.length ≤ 4000) : ∀ i ∈ underC c lo hi, i64r i := fun i hi => by
 have := (underC_mem.1 hi).1
 unfold i64r; omega
theorem underC_len (c : ChartS) (lo hi : Pt) : (underC c lo hi).length ≤ c.cs.length := by
 unfold underC unC
 rw [List.length_map]
 exact Nat.le_trans (List.length_filter_le _ _) (by rw [List.length_range]; exact Nat.le_refl _)
theorem IntsV.of {M : Mem} {v : Value} {us : List Int} (h : SlAt M 1 v us.length (us.map (Value.int .i64))) (h64 : ∀ i ∈ us, i64r i) : IntsV M v us := by
 have e : (us.map fun i => [Value.int .i64 i]).flatten = us.map (Value.int .i64) := by
  clear h h64
  induction us with
  | nil => rfl
  | cons b bs ih => simp only [List.map_cons, List.flatten_cons, ih]; rfl
 refine Arr.of (us.map fun i => [.int .i64 i]) (fun r hr => by obtain ⟨_, _, rfl⟩ := List.mem_map.1 hr; rfl) (by rw [e]; exact h) ?_
 clear h e
 induction us with
 | nil => trivial
 | cons b bs ih => exact ⟨⟨rfl, h64 b List.mem_cons_self⟩, ih fun i hi => h64 i (List.mem_cons_of_mem _ hi)⟩
set_option maxRecDepth 20000 in
set_option maxHeartbeats 2000000 in
theorem Touched_fn (c : ChartS) (a b d : Value) (lo hi : Pt) (M : Mem) (h : Cha M c a b d) (hlo : i64r lo.1 ∧ i64r lo.2) (hhi : i64r hi.1 ∧ i64r hi.2) : V.Fn Tryz.prog 59 [chV c a b d, ptv lo, ptv hi] M fun rs M' => if tcOK c lo hi = true then ∃ u, rs = [u, .int .i64 0] ∧ IntsV M' u (underC c lo hi) else rs = [.slice none 0 0, .int .i64 1] := by
 have hv := chValid_fn c a b d M h
 have hsh := h.shape
 obtain ⟨⟨ad, ka, ea⟩, ⟨bd, kb, eb⟩, dd, kd, ed⟩ := hsh
 subst ea; subst eb; subst ed
 have bad : ∀ {q : Bool}, tcOK c lo hi = q → q = false → ∀ M' : Mem, (if tcOK c lo hi = true then ∃ u, ([.slice none 0 0, .int .i64 1] : List Value) = [u, .int .i64 0] ∧ IntsV M' u (underC c lo hi) else ([.slice none 0 0, .int .i64 1] : List Value) = [.slice none 0 0, .int .i64 1]) := fun e e' M' => by
  rw [e, e', if_neg (by decide)]
 refine Fn.of_vc cxOK Tryz.func59 rfl rfl rfl ?_
 refine VFn.mk _ hv ?_
 rintro rs M1 hM1 rfl
 refine VIf.mk (fun e1 => ?_) (fun e1 => ?_)
 ·have e1 := (Bool.not_eq_true' _).mp e1
  repeat (first | refine VIf.tt ?_ | refine VIf.ff ?_)
  exact VFact.mk (bad rfl (by unfold tcOK; rw [e1]; rfl) _) trivial
 have hV := (Bool.not_eq_false' _).mp e1
 repeat (first | refine VIf.tt ?_ | refine VIf.ff ?_)
 refine VFn.mk _ (chartPlace_fn lo _ hlo.1 hlo.2) ?_
 rintro rs M2 hM2 rfl
 repeat (first | refine VIf.tt ?_ | refine VIf.ff ?_)
 refine VIf.mk (fun e2 => ?_) (fun e2 => ?_)
 ·have e2 := (Bool.not_eq_true' _).mp e2
  repeat (first | refine VIf.tt ?_ | refine VIf.ff ?_)
  exact VFact.mk (bad rfl (by unfold tcOK; rw [e2, Bool.and_false]; rfl) _) trivial
 have hL := (Bool.not_eq_false' _).mp e2
 repeat (first | refine VIf.tt ?_ | refine VIf.ff ?_)
 refine VFn.mk _ (chartPlace_fn hi _ hhi.1 hhi.2) ?_
 rintro rs M3 hM3 rfl
 repeat (first | refine VIf.tt ?_ | refine VIf.ff ?_)
 refine VIf.mk (fun e3 => ?_) (fun e3 => ?_)
 ·have e3 := (Bool.not_eq_true' _).mp e3
  repeat (first | refine VIf.tt ?_ | refine VIf.ff ?_)
  exact VFact.mk (bad rfl (by unfold tcOK; rw [e3, Bool.and_false]; rfl) _) trivial
 have hH := (Bool.not_eq_false' _).mp e3
 repeat (first | refine VIf.tt ?_ | refine VIf.ff ?_)
 refine VIf.mk (fun e4 => ?_) (fun e4 => ?_)
 ·have e4 := of_decide_eq_true e4
  repeat (first | refine VIf.tt ?_ | refine VIf.ff ?_)
  exact VFact.mk (bad rfl (by unfold tcOK; rw [decide_eq_false (by omega), Bool.and_false]) _) trivial
 have e4 := of_decide_eq_false e4
 repeat (first | refine VIf.tt ?_ | refine VIf.ff ?_)
 refine VIf.mk (fun e5 => ?_) (fun e5 => ?_)
 ·have e5 := of_decide_eq_true e5
  exact VFact.mk (bad rfl (by unfold tcOK; rw [decide_eq_false (by omega), Bool.and_false]) _) trivial
 have e5 := of_decide_eq_false e5
 have hok : tcOK c lo hi = true := by unfold tcOK; rw [hV, hL, hH, decide_eq_true (by omega)]; rfl
 rw [hok]
 have m3 := hM1.trans (hM2.trans hM3)
 refine VFn.mk _ (under_fn c _ _ _ lo hi M3 (h.le m3)) ?_
 rintro rs M4 hM4 ⟨B1, B2, B3, rfl, hB1, hB2, hB3⟩
 have hit := under_iter c _ _ _ lo hi M4 (validC_frame hV) hL hH B1 B2 B3 hB1 hB2 hB3
 have h64 := underC_64 (c := c) (lo := lo) (hi := hi) (validC_frame hV).1.2.2.2.2.1
 have hlen := underC_len c lo hi
 have hc4 := (validC_frame hV).1.2.2.2.2.1
 generalize underC c lo hi = us at *
 refine VCode.rangeB cxOK rfl hit (fun x hx => ?_) [(8, .box 3 0)] rfl (by kernel_rfl) (by kernel_rfl) Unit
  (fun k _ => ⟨[(8, .box 3 0)], [(3, some (.box 30 [.row 4])), (4, some (.row 3 1 (us.take k).length ((us.take k).map (Value.int .i64))))], 5, M4, 47, ⟨fun _ => none, none, fun _ => none⟩⟩)
  (fun k _ => k ≤ us.length) () (Nat.zero_le _) ?_ (fun k s => ⟨rfl, rfl⟩) ?_ ?_
 ·obtain ⟨i, _, rfl⟩ := List.mem_map.1 hx
  rfl
 ·exact Wk.nilBox 3 30 [] [] 3 1 rfl (Wk.mk' id (by repeat' constructor) (by repeat' constructor) (injOK_id _) rfl rfl rfl)
 ·rintro k _ args hk hxs m f
  rw [List.getElem?_map] at hxs
  obtain ⟨g, hg, rfl⟩ : ∃ g, us[k]? = some g ∧ [Value.int .i64 g] = args := by
   cases h : us[k]? with
   | none => rw [h] at hxs; cases hxs
   | some g => rw [h] at hxs; exact ⟨g, rfl, by simpa using hxs⟩
  obtain ⟨hk, eg⟩ := List.getElem?_eq_some_iff.1 hg
  have htk : us.take (k + 1) = us.take k ++ [g] := by rw [List.take_add_one, hg]; rfl
  intro m'
  have hb : ((us.take k).length + 1) * 8 ≤ 140737488355328 := by rw [List.length_take]; omega
  refine VFact.mk hb ?_
  refine ⟨(), hk, Wk.mk' (fun i => if i = 4 then 6 else i) (by repeat' constructor) ⟨⟨rfl, by repeat' constructor⟩, ⟨rfl, ⟨rfl, rfl, ?_, ?_⟩⟩, trivial⟩ (by simp [injOK]) rfl rfl rfl⟩
  ·show (us.take (k + 1)).length = (us.take k).length + 1
   rw [htk, List.length_append]; rfl
  ·show (us.take (k + 1)).map (Value.int .i64) = (us.take k).map (Value.int .i64) ++ ([Value.int .i64 g] ++ [])
   rw [htk, List.map_append]; rfl
 ·rintro _ m _
  refine VFz.mk fun x B M5 hM5 hx => ?_
  have hx : SlAt M5 1 x (us.take (us.map fun i => [Value.int .i64 i]).length).length ((us.take (us.map fun i => [Value.int .i64 i]).length).map (Value.int .i64)) := hx
  rw [List.length_map, List.take_length] at hx
  exact VFact.mk (show ∃ u, ([x, .int .i64 0] : List Value) = [u, .int .i64 0] ∧ IntsV M5 u us from ⟨x, rfl, IntsV.of hx h64⟩) trivial
end Go.Proofs.YtcdlplobniogpaaGreat
namespace Go.Proofs
open Go.RowKit Go.Maps Go.Sort Go.Shelf
def Tryz.sortA_ren : Go.Shelf.Ren := ⟨fun | 5 => 37 | 8 => 63 | 7 => 62 | 19 => 111 | 20 => 112 | 10 => 102 | 11 => 103 | 12 => 104 | 13 => 105 | 14 => 106 | 15 => 107 | 16 => 108 | 17 => 109 | 18 => 110 | 30 => 148 | 31 => 149 | 32 => 150 | 33 => 151 | 34 => 152 | 35 => 153 | 40 => 182 | n => n, fun | 23 => 30 | 25 => 3 | 3 => 3 | 32 => 103 | 22 => 30 | 0 => 0 | 44 => 153 | 46 => 155 | 4 => 4 | 36 => 145 | 35 => 144 | 41 => 150 | 5 => 5 | 9 => 9 | 53 => 179 | 57 => 183 | 63 => 206 | 64 => 123 | n => n, fun | n => n⟩
theorem Tryz.sortA : Go.Proofs.SlLaysM.n5 Tryz.prog Tryz.sortA_ren := {
  mixed := by kernel_rfl
  f5 := ⟨Tryz.f37.name, by decide, Tryz.func37.trans (congrArg some (by kernel_rfl))⟩
  f7 := ⟨Tryz.f62.name, by decide, Tryz.func62.trans (congrArg some (by kernel_rfl))⟩
  f8 := Tryz.func63.trans (congrArg some (by kernel_rfl))
  f10 := ⟨Tryz.f102.name, by decide, Tryz.func102.trans (congrArg some (by kernel_rfl))⟩
  f11 := ⟨Tryz.f103.name, by decide, Tryz.func103.trans (congrArg some (by kernel_rfl))⟩
  f12 := ⟨Tryz.f104.name, by decide, Tryz.func104.trans (congrArg some (by kernel_rfl))⟩
  f13 := ⟨Tryz.f105.name, by decide, Tryz.func105.trans (congrArg some (by kernel_rfl))⟩
  f14 := ⟨Tryz.f106.name, by decide, Tryz.func106.trans (congrArg some (by kernel_rfl))⟩
  f15 := ⟨Tryz.f107.name, by decide, Tryz.func107.trans (congrArg some (by kernel_rfl))⟩
  f16 := ⟨Tryz.f108.name, by decide, Tryz.func108.trans (congrArg some (by kernel_rfl))⟩
  f17 := ⟨Tryz.f109.name, by decide, Tryz.func109.trans (congrArg some (by kernel_rfl))⟩
  f18 := ⟨Tryz.f110.name, by decide, Tryz.func110.trans (congrArg some (by kernel_rfl))⟩
  f19 := Tryz.func111.trans (congrArg some (by kernel_rfl))
  f20 := Tryz.func112.trans (congrArg some (by kernel_rfl))
  f30 := ⟨Tryz.f148.name, by decide, Tryz.func148.trans (congrArg some (by kernel_rfl))⟩
  f31 := Tryz.func149.trans (congrArg some (by kernel_rfl))
  f32 := Tryz.func150.trans (congrArg some (by kernel_rfl))
  f33 := ⟨Tryz.f151.name, by decide, Tryz.func151.trans (congrArg some (by kernel_rfl))⟩
  f34 := ⟨Tryz.f152.name, by decide, Tryz.func152.trans (congrArg some (by kernel_rfl))⟩
  f35 := ⟨Tryz.f153.name, by decide, Tryz.func153.trans (congrArg some (by kernel_rfl))⟩
  f40 := ⟨Tryz.f182.name, by decide, Tryz.func182.trans (congrArg some (by kernel_rfl))⟩
  t0 := Tryz.underlying0
  a0 := Tryz.isAgg0
  z0 := Tryz.sizeOf0
  v0 := Tryz.zeroValue0
  t3 := Tryz.underlying3
  a3 := Tryz.isAgg3
  z3 := Tryz.sizeOf3
  v3 := Tryz.zeroValue3
  t4 := Tryz.underlying4
  a4 := Tryz.isAgg4
  z4 := Tryz.sizeOf4
  v4 := Tryz.zeroValue4
  t5 := Tryz.underlying5
  a5 := Tryz.isAgg5
  z5 := Tryz.sizeOf5
  v5 := Tryz.zeroValue5
  t9 := Tryz.underlying9
  a9 := Tryz.isAgg9
  z9 := Tryz.sizeOf9
  v9 := Tryz.zeroValue9
  t22 := Tryz.underlying30
  a22 := Tryz.isAgg30
  z22 := Tryz.sizeOf30
  v22 := Tryz.zeroValue30
  t23 := Tryz.underlying30
  a23 := Tryz.isAgg30
  z23 := Tryz.sizeOf30
  v23 := Tryz.zeroValue30
  t25 := Tryz.underlying3
  a25 := Tryz.isAgg3
  z25 := Tryz.sizeOf3
  v25 := Tryz.zeroValue3
  t32 := Tryz.underlying103
  a32 := Tryz.isAgg103
  z32 := Tryz.sizeOf103
  v32 := Tryz.zeroValue103
  t35 := Tryz.underlying144
  a35 := Tryz.isAgg144
  z35 := Tryz.sizeOf144
  v35 := Tryz.zeroValue144
  t36 := Tryz.underlying145
  a36 := Tryz.isAgg145
  z36 := Tryz.sizeOf145
  v36 := Tryz.zeroValue145
  t41 := Tryz.underlying150
  a41 := Tryz.isAgg150
  z41 := Tryz.sizeOf150
  v41 := Tryz.zeroValue150
  t44 := Tryz.underlying153
  a44 := Tryz.isAgg153
  z44 := Tryz.sizeOf153
  v44 := Tryz.zeroValue153
  t46 := Tryz.underlying155
  a46 := Tryz.isAgg155
  z46 := Tryz.sizeOf155
  v46 := Tryz.zeroValue155
  t53 := Tryz.underlying179
  a53 := Tryz.isAgg179
  z53 := Tryz.sizeOf179
  v53 := Tryz.zeroValue179
  t57 := Tryz.underlying183
  a57 := Tryz.isAgg183
  z57 := Tryz.sizeOf183
  v57 := Tryz.zeroValue183
  t63 := Tryz.underlying206
  a63 := Tryz.isAgg206
  z63 := Tryz.sizeOf206
  v63 := Tryz.zeroValue206
  t64 := Tryz.underlying123
  a64 := Tryz.isAgg123
  z64 := Tryz.sizeOf123
  v64 := Tryz.zeroValue123 }
end Go.Proofs
namespace Go.Proofs.YtcdlplobniogpaaGreat
open Go Go.V Go.RowKit Go.Maps Go.Sort Go.Shelf
end Go.Proofs.YtcdlplobniogpaaGreat
namespace Go.Proofs.YtcdlplobniogpaaGreat
open Go Go.V Go.RowKit
abbrev chSV (c : ChartS) (a b d : Value) : List SV := [.v (.int .i64 c.ver), .v (.int .i64 c.x), .v (.int .i64 c.y), .v (.int .i64 c.w), .v (.int .i64 c.h), .v (.int .i64 c.sz), .v a, .v b, .v d]
def RisingI (n : Nat) (l : List Int) : Prop := ∀ i, i < l.length → (0 ≤ gi l i ∧ gi l i < n) ∧ (0 < i → gi l (i - 1) < gi l i)
instance (n : Nat) (l : List Int) : Decidable (RisingI n l) := by unfold RisingI; infer_instance
theorem gi_eq {l : List Int} {j : Nat} (h : j < l.length) : gi l j = l[j] := by simp [gi, h]
theorem gi_mem {l : List Int} {j : Nat} (h : j < l.length) : gi l j ∈ l := by simp [gi, h]
end Go.Proofs.YtcdlplobniogpaaGreat
namespace Go.Proofs.YtcdlplobniogpaaGreat
open Go Go.V Go.RowKit
end Go.Proofs.YtcdlplobniogpaaGreat
namespace Go.Proofs.YtcdlplobniogpaaGreat
open Go Go.V Go.RowKit
theorem sqOK_of {c : ChartS} {i : Int} (h : validC c = true) (hi : 0 ≤ i ∧ i < c.cs.length) : sqOK c i = true := by unfold sqOK; rw [h, decide_eq_true hi]; rfl
theorem Square_is {c : ChartS} {a b d : Value} {i : Int} {M : Mem} (h : Cha M c a b d) (hv : validC c = true) (hi : 0 ≤ i ∧ i < c.cs.length) : V.Fn Tryz.prog 68 [chV c a b d, .int .i64 i] M fun rs _ => rs = [ptv (bLo c i), ptv (bHi c i), .int .i64 0] := by
 have := Square_fn c a b d i M h
 rw [sqOK_of hv hi, if_pos rfl] at this
 exact this
end Go.Proofs.YtcdlplobniogpaaGreat
namespace Go.Proofs.YtcdlplobniogpaaGreat
open Go Go.V Go.RowKit
def sqL (lo hi : Pt) : List Pt := [lo, (hi.1, lo.2), hi, (lo.1, hi.2)]
def sqC (c : ChartS) (i : Int) : List Pt := aroundP (sqL (bLo c i) (bHi c i))
def touI (c : ChartS) (p : List Pt) : List Int := (underC c (boxLo p) (boxHi p)).filter fun i => decide (0 < (sharA p (sqC c i)).length)
def pieC (c : ChartS) (p : List Pt) (i : Int) : List Pt := arC (sharA p (sqC c i))
def fitC (x : CellS) (h v : Pt) : Bool := x.vd || (decide (x.lo + h.1 ≤ v.2) && decide (v.1 ≤ x.hi + h.2))
def fitI (c : ChartS) (h v : Pt) (i : Int) : Bool := fitC (gce c.cs i.toNat) h v
def heiB (h : Pt) : Bool := decide (-2000 ≤ h.1 ∧ h.1 ≤ h.2 ∧ h.2 ≤ 2000)
def depB (v : Pt) : Bool := decide (-100000 ≤ v.1 ∧ v.1 ≤ v.2 ∧ v.2 ≤ 100000)
def sndB (c : ChartS) (h v : Pt) : Bool := validC c && (heiB h && depB v)
def okI (c : ChartS) (h v : Pt) (cells : List Int) (i : Int) : Bool := fitI c h v i || decide (i ∈ cells)
def lastI (c : ChartS) : Int := (c.cs.length : Int) - 1
def echP (c : ChartS) (h v : Pt) (cells : List Int) (p : List Pt) : List (List Pt) :=
 if (touI c p).all (okI c h v cells) = true then [p] else ((touI c p).filter (okI c h v cells)).map (pieC c p) ++ withoutB [p] (bLo c 0) (bHi c (lastI c))
theorem sq_place {c : ChartS} (h : frameC c) {i : Int} (hi : 0 ≤ i ∧ i < c.cs.length) : ∀ x ∈ sqL (bLo c i) (bHi c i), placeB x = true := by
 have h1 := place_box.1 (sq_bd h hi).2.1
 have h2 := place_box.1 (sq_bd h hi).2.2
 intro x hx
 simp only [sqL, List.mem_cons, List.not_mem_nil, or_false] at hx
 rcases hx with rfl | rfl | rfl | rfl <;> exact place_box.2 (by first | omega | (simp only; omega))
theorem sqC_hl {c : ChartS} (i : Int) : Hl (sqL (bLo c i) (bHi c i)) (sqC c i) := around_hl (by simp [sqL])
theorem sqC_len {c : ChartS} (i : Int) : (sqC c i).length ≤ 4 := hl_len (sqC_hl i)
theorem sqC_valid {c : ChartS} (h : frameC c) {i : Int} (hi : 0 ≤ i ∧ i < c.cs.length) : validB (sqC c i) = true := (sqC_hl i).valid (sq_place h hi) (by have := sqC_len (c := c) i; omega)
theorem touI_bd {c : ChartS} {p : List Pt} {i : Int} (h : i ∈ touI c p) : 0 ≤ i ∧ i < c.cs.length := (underC_mem.1 (List.mem_filter.1 h).1).1
theorem isWithin_fn (s : Pt) (lo hi : Int) (M : Mem) : FnP Tryz.prog 55 [ptv s, .int .i64 lo, .int .i64 hi] M [.bool (decide (lo ≤ s.1 ∧ s.1 ≤ s.2 ∧ s.2 ≤ hi))] := by
 refine Fn.of_vc cxOK Tryz.func55 rfl rfl rfl ?_
 repeat' (first | refine VIf.tt ?_ | refine VIf.ff ?_ | refine VIf.mk (fun _ => ?_) (fun _ => ?_) | refine VFact.mk ?_ trivial)
 all_goals (refine ⟨bool1 ?_, rfl⟩; simp only [Bool.and_eq_true, decide_eq_true_eq, decide_eq_false_iff_not, Bool.false_eq_true, false_iff] at *; omega)
def fitsV (B1 B2 B3 : Nat) : Value := .func (.func 56) #[] #[.pointer (some ⟨B1, 0, none⟩), .pointer (some ⟨B2, 0, none⟩), .pointer (some ⟨B3, 0, none⟩)]
def sndV (c : ChartS) (a b d f x : Value) : List Value := [.int .i64 c.ver, .int .i64 c.x, .int .i64 c.y, .int .i64 c.w, .int .i64 c.h, .int .i64 c.sz, a, b, d, f, x]
structure SndM (M : Mem) (c : ChartS) (a b d : Value) (h v : Pt) (B1 B2 B3 : Nat) : Prop where
 b1 : M B1 = some (.cells (chC c a b d) 26 (0, 0))
 b2 : M B2 = some (.cells #[.int .i64 h.1, .int .i64 h.2] 29 (0, 0))
 b3 : M B3 = some (.cells #[.int .i64 v.1, .int .i64 v.2] 29 (0, 0))
theorem SndM.le {M M' : Mem} {c : ChartS} {a b d : Value} {h v : Pt} {B1 B2 B3 : Nat} (k : SndM M c a b d h v B1 B2 B3) (hM : M.le M') : SndM M' c a b d h v B1 B2 B3 := ⟨hM _ _ k.b1, hM _ _ k.b2, hM _ _ k.b3⟩
theorem cell_bd {c : ChartS} (h : validC c = true) {i : Nat} (hi : i < c.cs.length) : -100000 ≤ (gce c.cs i).lo ∧ (gce c.cs i).lo ≤ 100000 ∧ -100000 ≤ (gce c.cs i).hi ∧ (gce c.cs i).hi ≤ 100000 := by
 simp only [validC, Bool.and_eq_true] at h
 have := List.all_eq_true.1 h.1.1.2 (gce c.cs i) (by unfold gce; simp [hi])
 unfold cellOK at this
 have this := of_decide_eq_true this
 unfold cellP at this
 omega
theorem fits_fn (c : ChartS) (a b d : Value) (h v : Pt) (i : Int) (B1 B2 B3 : Nat) (M : Mem) (hB : SndM M c a b d h v B1 B2 B3) (ha : CelsV M a c.cs) (hs : sndB c h v = true) (hi : 0 ≤ i ∧ i < c.cs.length) :
  FnP Tryz.prog 56 [.int .i64 i, .pointer (some ⟨B1, 0, none⟩), .pointer (some ⟨B2, 0, none⟩), .pointer (some ⟨B3, 0, none⟩)] M [.bool (fitI c h v i)] := by
 obtain ⟨ad, k, rfl, hm, hrd⟩ := ha.get
 obtain ⟨ad', ead, _, hp⟩ := hrd M (Mem.le_refl _) i.toNat (by omega)
 simp only [sndB, heiB, depB, Bool.and_eq_true, decide_eq_true_eq] at hs
 have bd := cell_bd hs.1 (i := i.toNat) (by omega)
 unfold fitI fitC
 generalize gce c.cs i.toNat = x at *
 refine Fn.of_vc cxOK Tryz.func56 rfl rfl rfl ?_
 refine VRead.mk (.slice ad c.cs.length k) (cellAt hB.b1 6 rfl) ?_
 refine VIdx.mk ad' i.toNat ead (by omega) (by omega) ?_
 refine VReads.mk [.int .i64 x.lo, .int .i64 x.hi, .int .i64 x.dt, .bool x.vd] rfl hp ?_
 refine VIf.mk (fun e1 => ?_) (fun e1 => ?_)
 ·repeat (first | refine VIf.tt ?_ | refine VIf.ff ?_)
  exact VFact.mk ⟨by rw [e1]; rfl, rfl⟩ trivial
 repeat (first | refine VIf.tt ?_ | refine VIf.ff ?_)
 refine VRead.mk (.int .i64 h.1) (cellAt hB.b2 0 rfl) ?_
 repeat (first | refine VIf.tt ?_ | refine VIf.ff ?_)
 refine VArith.ok (by first | omega | (simp only; omega)) (by first | omega | (simp only; omega)) ?_
 repeat (first | refine VIf.tt ?_ | refine VIf.ff ?_)
 refine VRead.mk (.int .i64 v.2) (cellAt hB.b3 1 rfl) ?_
 repeat (first | refine VIf.tt ?_ | refine VIf.ff ?_)
 refine VIf.mk (fun e2 => ?_) (fun e2 => ?_)
 rotate_left
 ·repeat (first | refine VIf.tt ?_ | refine VIf.ff ?_)
  exact VFact.mk ⟨by rw [e1, e2]; rfl, rfl⟩ trivial
 repeat (first | refine VIf.tt ?_ | refine VIf.ff ?_)
 refine VRead.mk (.int .i64 v.1) (cellAt hB.b3 0 rfl) ?_
 repeat (first | refine VIf.tt ?_ | refine VIf.ff ?_)
 refine VRead.mk (.int .i64 h.2) (cellAt hB.b2 1 rfl) ?_
 repeat (first | refine VIf.tt ?_ | refine VIf.ff ?_)
 refine VArith.ok (by first | omega | (simp only; omega)) (by first | omega | (simp only; omega)) ?_
 repeat (first | refine VIf.tt ?_ | refine VIf.ff ?_)
 exact VFact.mk ⟨by rw [e1, e2]; rfl, rfl⟩ trivial
set_option maxRecDepth 20000 in
theorem newSounder_fn (c : ChartS) (a b d : Value) (h v : Pt) (M : Mem) (hc : Cha M c a b d) :
  V.Fn Tryz.prog 32 [chV c a b d, ptv h, ptv v] M fun rs M' => if sndB c h v = true then ∃ B B1 B2 B3, rs = [.pointer (some ⟨B, 0, none⟩), .bool true] ∧ M' B = some (.cells (sndV c a b d (fitsV B1 B2 B3) (.slice none 0 0)).toArray 71 (0, 0)) ∧ SndM M' c a b d h v B1 B2 B3 else rs = [.pointer none, .bool false] := by
 have hv1 := fun M' (hM : M.le M') => chValid_fn c a b d M' (hc.le hM)
 obtain ⟨⟨ad, ka, rfl⟩, ⟨bd, kb, rfl⟩, dd, kd, rfl⟩ := hc.shape
 refine Fn.of_vc cxOK Tryz.func32 rfl rfl rfl ?_
 refine VFn.mk _ (hv1 M (Mem.le_refl _)) ?_
 rintro rs M1 hM1 rfl
 refine VIf.mk (fun e1 => ?_) (fun e1 => ?_)
 ·repeat (first | refine VIf.tt ?_ | refine VIf.ff ?_)
  exact VFact.mk (by unfold sndB; rw [bn1 e1]; rfl) trivial
 have e1 := bn2 e1
 repeat (first | refine VIf.tt ?_ | refine VIf.ff ?_)
 refine VFn.p (isWithin_fn h _ _ M1) ?_
 repeat (first | refine VIf.tt ?_ | refine VIf.ff ?_)
 refine VIf.mk (fun e2 => ?_) (fun e2 => ?_)
 ·repeat (first | refine VIf.tt ?_ | refine VIf.ff ?_)
  exact VFact.mk (by unfold sndB; rw [show heiB h = false from bn1 e2, Bool.false_and, Bool.and_false]; rfl) trivial
 have e2 : heiB h = true := bn2 e2
 repeat (first | refine VIf.tt ?_ | refine VIf.ff ?_)
 refine VFn.p (isWithin_fn v _ _ M1) ?_
 repeat (first | refine VIf.tt ?_ | refine VIf.ff ?_)
 refine VIf.mk (fun e3 => ?_) (fun e3 => ?_)
 ·exact VFact.mk (by unfold sndB; rw [show depB v = false from bn1 e3, Bool.and_false, Bool.and_false]; rfl) trivial
 have e3 : depB v = true := bn2 e3
 refine VFzB.mk fun x1 B1 M2 hM2 h1 => ?_
 refine VFzB.mk fun x2 B2 M3 hM3 h2 => ?_
 refine VFzB.mk fun x3 B3 M4 hM4 h3 => ?_
 refine VFzB.mk fun x4 B4 M5 hM5 h4 => ?_
 refine VFact.mk ?_ trivial
 unfold sndB
 rw [e1, e2, e3]
 exact ⟨B4, B1, B2, B3, rfl, h4, hM5 _ _ (hM4 _ _ (hM3 _ _ h1)), hM5 _ _ (hM4 _ _ h2), hM5 _ _ h3⟩
end Go.Proofs.YtcdlplobniogpaaGreat
namespace Go.Proofs.YtcdlplobniogpaaGreat
open Go Go.V Go.RowKit
theorem Fn.frame {P : Program} {f : Nat} {args : List Value} {Mb M : Mem} {R : List Value → Mem → Prop} (hle : Mb.le M) (h : V.Fn P f args Mb R) :
  V.Fn P f args M fun rs M' => ∃ Mh, Mb.le Mh ∧ Mh.le M' ∧ R rs Mh ∧ ∀ b, M b ≠ none → Mh b = Mb b := by
 refine ⟨h.1, fun W hW => (h.2 W (fun b o hb => hW b o (hle b o hb))).mono ?_⟩
 rintro e W' ⟨rs, Mh, rfl, h1, h2, h3, h4, h5⟩
 have hsz : ∀ b o, M b = some o → b < W.heap.size := fun b o hb => (Array.getElem?_eq_some_iff.1 (hW b o hb)).1
 refine ⟨rs, fun b => if b < W.heap.size then M b else Mh b, rfl, h1, ?_, ?_, ?_, Mh, h2, ?_, h5, ?_⟩
 ·intro b o hb
  simp only
  rw [if_pos (hsz b o hb)]; exact hb
 ·intro b o hb
  simp only at hb
  split at hb
  ·rename_i hlt
   rw [h1.block b hlt]; exact hW b o hb
  ·exact h3 b o hb
 ·intro b hb
  simp only
  rw [if_pos hb]
 ·intro b o hb
  simp only
  split
  ·rename_i hlt
   rw [h4 b hlt] at hb
   exact hle b o hb
  ·exact hb
 ·intro b hb
  cases hm : M b with
  | none => exact absurd hm hb
  | some o => exact h4 b (hsz b o hm)
theorem fz_slat {M M' : Mem} {sz n : Nat} {x : Value} {xs : List Value} (h : FzNew M M' sz x n xs) (hx : SlAt M' sz x n xs) (hn : 0 < n) : ∃ B o, M B = none ∧ M' B = some o ∧ ∀ Mb : Mem, Mb B = some o → SlAt Mb sz x n xs := by
 obtain ⟨B, c, arr, E, rfl, h1, h2, h3, h4, h5, h6⟩ := h
 refine ⟨B, _, h1, h2, fun Mb hb => ?_⟩
 obtain ⟨a', c', e, k1, k2, k3, k4, k5⟩ := hx
 cases e
 refine ⟨_, c, rfl, h3, h4, k3, k4, fun _ => ⟨_, rfl, fun j v hj => ?_⟩⟩
 rw [Addr.add_none]
 rw [← h6, List.getElem?_take] at hj
 split at hj
 ·simp only [Mem.cell, hb, Option.isSome_none, Bool.false_eq_true, if_false, Nat.zero_add]
  simpa using hj
 ·cases hj
theorem sq_hull {c : ChartS} (h : frameC c) {i : Int} (hi : 0 ≤ i ∧ i < c.cs.length) : hullB (sqL (bLo c i) (bHi c i)) = (sqC c i, 0) := by
 have := hullB_mid (sq_place h hi) (by simp [sqL]) (by simp [sqL])
 rw [if_pos (by have := sqC_len (c := c) i; unfold sqC at this; omega)] at this
 exact this
set_option maxRecDepth 20000 in
theorem square_fn (c : ChartS) (a b d f x : Value) (i : Int) (B : Nat) (Mb M3 : Mem) (hle : Mb.le M3) (hB : M3 B = some (.cells (sndV c a b d f x).toArray 71 (0, 0))) (hc : Cha Mb c a b d) (hv : validC c = true) (hi : 0 ≤ i ∧ i < c.cs.length) :
  V.Fn Tryz.prog 61 [.pointer (some ⟨B, 0, none⟩), .int .i64 i] M3 fun rs M' => ∃ u Mh, rs = [u] ∧ Mb.le Mh ∧ Mh.le M' ∧ Pts Mh u (sqC c i) ∧ ∀ b, M3 b ≠ none → Mh b = Mb b := by
 have hF := validC_frame hv
 have hS := fun M' (hM : Mb.le M') => Square_is (i := i) (hc.le hM) hv hi
 have hH := sq_hull hF hi
 have hP := sq_place hF hi
 generalize hlo : bLo c i = lo at *
 generalize hhi : bHi c i = hg at *
 refine Fn.of_vc cxOK Tryz.func61 rfl rfl rfl ?_
 refine VReads.mk [.int .i64 c.ver, .int .i64 c.x, .int .i64 c.y, .int .i64 c.w, .int .i64 c.h, .int .i64 c.sz, a, b, d] rfl (fun j v hj => cellAt hB j (by
  have : (sndV c a b d f x).toArray[j]? = (sndV c a b d f x)[j]? := by simp
  rw [this]
  match j, hj with
  | 0, hj => exact hj
  | 1, hj => exact hj
  | 2, hj => exact hj
  | 3, hj => exact hj
  | 4, hj => exact hj
  | 5, hj => exact hj
  | 6, hj => exact hj
  | 7, hj => exact hj
  | 8, hj => exact hj
  | j + 9, hj => simp at hj)) ?_
 refine VFn.mk _ (hS M3 hle) ?_
 rintro rs M4 hM4 rfl
 refine VFz.nw fun y By M5 hM5 hy hnw => ?_
 have hnw := hnw (Nat.succ_pos _)
 obtain ⟨By', o, n1, n2, n3⟩ := fz_slat hnw hy (by decide)
 have hbN : Mb By' = none := by
  cases hm : Mb By' with
  | none => rfl
  | some o' => rw [hM4 _ _ (hle _ _ hm)] at n1; cases n1
 obtain ⟨Mb2, e2⟩ : ∃ Mb2 : Mem, Mb2 = Mb.with By' o := ⟨_, rfl⟩
 have e2' : Mb2 By' = some o := by rw [e2]; simp [Mem.with]
 have e2o : ∀ b, b ≠ By' → Mb2 b = Mb b := fun b hb => by rw [e2]; simp [Mem.with, hb]
 have hl2 : Mb.le Mb2 := fun b' o' hb' => by
  rw [e2o b' (fun e => by subst e; rw [hbN] at hb'; cases hb')]; exact hb'
 have hl5 : Mb2.le M5 := fun b' o' hb' => by
  by_cases e : b' = By'
  ·subst e; rw [e2'] at hb'; cases hb'; exact n2
  ·rw [e2o b' e] at hb'; exact hM5 _ _ (hM4 _ _ (hle _ _ hb'))
 have hy2 : Pts Mb2 y (sqL lo hg) := n3 Mb2 e2'
 refine VFn.mk _ (Fn.frame hl5 (Hull_is hy2 (mem_64 hP) hH)) ?_
 rintro rs M6 hM6 ⟨Mh, k1, k2, ⟨u, rfl, hu⟩, k3⟩
 refine VFact.mk (show ∃ u Mh, _ = _ ∧ _ from ⟨u, Mh, rfl, hl2.trans k1, k2, hu, fun b hb => ?_⟩) trivial
 have hb5 : M5 b ≠ none := fun e => by
  cases hm : M3 b with
  | none => exact hb hm
  | some o' => rw [hM5 _ _ (hM4 _ _ hm)] at e; cases e
 rw [k3 b hb5, e2o b (fun e => by
  subst e
  cases hm : M3 b with
  | none => exact hb hm
  | some o' => rw [hM4 _ _ hm] at n1; cases n1)]
end Go.Proofs.YtcdlplobniogpaaGreat
namespace Go.Proofs.YtcdlplobniogpaaGreat
open Go Go.V Go.RowKit
def touQ (c : ChartS) (p : List Pt) : List Value → List Value → Mem → Prop := fun tag args M => ∃ (i : Int) (q : Value), tag = [.int .i64 i] ∧ args = [.int .i64 i, q] ∧ i ∈ touI c p ∧ Pts M q (pieC c p i)
def touT (c : ChartS) (p : List Pt) : List (List Value) := (touI c p).map fun i => [.int .i64 i]
theorem touQ_len (c : ChartS) (p : List Pt) : ∀ tag ∈ touT c p, ∀ x M, touQ c p tag x M → x.length = 2 := by
 rintro tag _ x M ⟨i, q, _, rfl, _⟩; rfl
theorem touQ_mono (c : ChartS) (p : List Pt) : ∀ tag x M M', Mem.le M M' → touQ c p tag x M → touQ c p tag x M' := by
 rintro tag x M M' hM ⟨i, q, h1, h2, h3, h4⟩; exact ⟨i, q, h1, h2, h3, h4.le hM⟩
def touR (c : ChartS) (p : List Pt) (k : Nat) : List (List Value) := (((underC c (boxLo p) (boxHi p)).drop k).filter fun i => decide (0 < (sharA p (sqC c i)).length)).map fun i => [.int .i64 i]
theorem touR_step (c : ChartS) (p : List Pt) {k : Nat} (h : k < (underC c (boxLo p) (boxHi p)).length) :
  touR c p k = if 0 < (sharA p (sqC c (gi (underC c (boxLo p) (boxHi p)) k))).length then [.int .i64 (gi (underC c (boxLo p) (boxHi p)) k)] :: touR c p (k + 1) else touR c p (k + 1) := by
 unfold touR
 rw [List.drop_eq_getElem_cons h, List.filter_cons]
 have e : (underC c (boxLo p) (boxHi p))[k] = gi (underC c (boxLo p) (boxHi p)) k := by simp [gi, h]
 rw [e]
 split <;> split <;> simp_all
theorem box_place {p : List Pt} (hV : validB p = true) : placeB (boxLo p) = true ∧ placeB (boxHi p) = true ∧ ((boxLo p).1 ≤ (boxHi p).1 ∧ (boxLo p).2 ≤ (boxHi p).2) := by
 have e1 : boxLo p = ((b8 p).a, (b8 p).c) := rfl
 have e2 : boxHi p = ((b8 p).b, (b8 p).d) := rfl
 obtain ⟨bd, bi⟩ := b8_bd hV
 obtain ⟨h1, h2, h3, h4, h5, h6, h7, h8, h9, h10, h11⟩ := bi
 rw [e1, e2]
 refine ⟨place_box.2 (by first | omega | (simp only; omega)), place_box.2 (by first | omega | (simp only; omega)), (by first | omega | (simp only; omega))⟩
theorem gi_memI {l : List Int} {k : Nat} (h : k < l.length) : gi l k ∈ l := by simp [gi, h]
theorem le_over {M : Mem} {D : List Nat} (hD : ∀ b ∈ D, M b = none) {M' : Mem} (hM : M.le M') (o : Mem) : M.le (M'.over D o) := fun b x hb => by
 rw [Mem.over_out (fun hd => by rw [hD b hd] at hb; cases hb)]; exact hM b x hb
set_option maxRecDepth 20000 in
set_option maxHeartbeats 4000000 in
theorem touched_iter {α : Type} {D : List Nat} {N : α → Mem} (c : ChartS) (a b d w : Value) (p : List Pt) (M : Mem) (Bp Bs B : Nat)
  (hD : ∀ b ∈ D, M b = none) (hN : ∀ x, ∀ b ∈ D, N x b ≠ none)
  (hS : ∀ (M3 : Mem) (x : α), M.le M3 → (∀ b ∈ D, M3 b = N x b) → M3 Bp = some (.cells #[w] 64 (0, 0)) ∧ M3 Bs = some (.cells #[.pointer (some ⟨B, 0, none⟩)] 66 (0, 0)) ∧ ∃ f y, M3 B = some (.cells (sndV c a b d f y).toArray 71 (0, 0)))
  (hc : Cha M c a b d) (hv : validC c = true) (hp : Pts M w p) (hV : validB p = true) :
  IterG Tryz.prog 58 #[.pointer (some ⟨Bp, 0, none⟩), .pointer (some ⟨Bs, 0, none⟩)] M D N (touQ c p) (touT c p) := by
 have hF := validC_frame hv
 have hc4 := hF.1.2.2.2.2.1
 have hp64 := valid_64 hV
 have pl := box_place hV
 have hTO : tcOK c (boxLo p) (boxHi p) = true := by
  unfold tcOK
  rw [hv, pl.1, pl.2.1, decide_eq_true pl.2.2]; rfl
 refine IterG.of_vc cxOK Tryz.func58 rfl rfl rfl rfl fun l x => ?_
 obtain ⟨M0, e0⟩ : ∃ M0, M0 = M.over D (N x) := ⟨_, rfl⟩
 have le0 : M.le M0 := by rw [e0]; exact le_over hD (Mem.le_refl _) _
 have d0 : ∀ b ∈ D, M0 b = N x b := fun b hb => by rw [e0, Mem.over_in hb]
 rw [← e0]
 obtain ⟨s1, s2, f0, y0, s3⟩ := hS M0 x le0 d0
 refine VRead.mk w (cellAt s1 0 rfl) ?_
 refine VFn.mk _ (Box_is (hp.le le0) hp64 hV rfl rfl) ?_
 rintro rs M1 hM1 rfl
 have s2' := hM1 _ _ s2
 have s3' := hM1 _ _ s3
 refine VDraw.go (by kernel_rfl) ?_
 refine VRead.mk (.pointer (some ⟨B, 0, none⟩)) (cellAt s2' 0 rfl) ?_
 refine VReads.mk [.int .i64 c.ver, .int .i64 c.x, .int .i64 c.y, .int .i64 c.w, .int .i64 c.h, .int .i64 c.sz, a, b, d] rfl (fun j v hj => cellAt s3' j (by
  have : (sndV c a b d f0 y0).toArray[j]? = (sndV c a b d f0 y0)[j]? := by simp
  rw [this]
  match j, hj with
  | 0, hj => exact hj
  | 1, hj => exact hj
  | 2, hj => exact hj
  | 3, hj => exact hj
  | 4, hj => exact hj
  | 5, hj => exact hj
  | 6, hj => exact hj
  | 7, hj => exact hj
  | 8, hj => exact hj
  | j + 9, hj => simp at hj)) ?_
 have T := Touched_fn c a b d (boxLo p) (boxHi p) M hc (place_64 pl.1) (place_64 pl.2.1)
 rw [hTO] at T
 simp only [if_true] at T
 refine VFn.mk _ (Fn.frame (le0.trans hM1) T) ?_
 rintro rs M2 hM2 ⟨Mb, b1, b2, ⟨u, rfl, hu⟩, b3⟩
 obtain ⟨ud, uc, rfl, hum, hur⟩ := hu.get
 have m12 := hM1.trans hM2
 have some0 : ∀ {M9 : Mem}, M0.le M9 → ∀ b ∈ D, M9 b = N x b := fun {M9} hM b hb => by
  have h1 := d0 b hb
  cases hn : N x b with
  | none => exact absurd hn (hN x b hb)
  | some o => rw [hn] at h1; exact hM b o h1
 have hDb : ∀ b ∈ D, Mb b = none := fun b hb => by
  rw [b3 b (by rw [some0 hM1 b hb]; exact hN x b hb)]; exact hD b hb
 obtain ⟨L, eL⟩ : ∃ L, L = underC c (boxLo p) (boxHi p) := ⟨_, rfl⟩
 have hLm : ∀ k, k < L.length → 0 ≤ gi L k ∧ gi L k < c.cs.length := fun k hk => by rw [eL] at hk ⊢; exact (underC_mem.1 (gi_memI hk)).1
 have hLl : L.length ≤ 4000 := by have := underC_len c (boxLo p) (boxHi p); rw [eL]; omega
 rw [← eL] at hur hum ⊢
 refine VCode.loopG cxOK (fun m => m = fun _ => none) rfl (Nat × Mem)
  (fun (⟨k, M3⟩ : Nat × Mem) => ⟨[(0, .v (.func (.yield l) #[] #[])), (1, .v (.pointer (some ⟨Bp, 0, none⟩))), (2, .v (.pointer (some ⟨Bs, 0, none⟩))), (30, .v (.slice ud L.length uc)), (31, .v (.int .i64 L.length)), (32, .v (.int .i64 k))], [], 0, M3, 54, ⟨fun _ => none, some (⟨l, some (turnX D N (touQ c p))⟩, touR c p k), fun _ => none⟩⟩)
  (fun (⟨k, M3⟩ : Nat × Mem) => k ≤ L.length ∧ Mb.le M3 ∧ ∃ x, ∀ b ∈ D, M3 b = N x b) (fun (⟨k, _⟩ : Nat × Mem) => L.length - k) (0, M2) ⟨Nat.zero_le _, b2, x, some0 m12⟩ ?_ ?_
 ·refine Wk.mk' id (by repeat' constructor) (by repeat' constructor) (injOK_id _) rfl rfl ?_
  show some ((⟨l, some (turnX D N (touQ c p))⟩ : Lp), _) = some ((⟨l, some (turnX D N (touQ c p))⟩ : Lp), _)
  rfl
 rintro ⟨k, M3⟩ ⟨hk, g1, x3, g2⟩ m rfl
 refine VIf.mk (fun hlt => ?_) (fun hge => ?_)
 rotate_left
 ·have : k = L.length := by have := ge_of_dec hge; omega
  subst this
  exact VEndT.all (by unfold touR; rw [← eL, List.drop_length]; rfl)
 have hlt : k < L.length := lt_of_dec hlt
 obtain ⟨a1, e1, _, c1⟩ := hur M3 g1 k hlt
 obtain ⟨s1, s2, f3, y3, s3⟩ := hS M3 x3 (b1.trans g1) g2
 have hi := hLm k hlt
 have hst := touR_step c p (k := k) (by rw [← eL]; exact hlt)
 rw [← eL] at hst
 have hmem : gi L k ∈ underC c (boxLo p) (boxHi p) := by rw [← eL]; exact gi_memI hlt
 generalize gi L k = i at *
 have hq4 := sqC_len (c := c) i
 have hqV := sqC_valid hF hi
 refine VIdx.mk a1 k e1 rfl hlt ?_
 refine VRead.mk (.int .i64 i) c1 ?_
 refine VDraw.go (by kernel_rfl) ?_
 refine VRead.mk w (cellAt s1 0 rfl) ?_
 refine VRead.mk (.pointer (some ⟨B, 0, none⟩)) (cellAt s2 0 rfl) ?_
 refine VFn.mk _ (square_fn c a b d f3 y3 i B Mb M3 g1 s3 (hc.le b1) hv hi) ?_
 rintro rs M4 hM4 ⟨u4, Mh, rfl, h1, h2, h3, h4⟩
 refine VFn.mk _ (Fn.frame h2 (Meet_is (hp.le (b1.trans h1)) h3 hV hqV rfl rfl)) ?_
 rintro rs M5 hM5 ⟨Mq, q1, q2, ⟨q, rfl, hq⟩, q3⟩
 have some3 : ∀ {M9 : Mem}, M3.le M9 → ∀ b ∈ D, M9 b = N x3 b := fun {M9} hM b hb => by
  have h1 := g2 b hb
  cases hn : N x3 b with
  | none => exact absurd hn (hN x3 b hb)
  | some o => rw [hn] at h1; exact hM b o h1
 have hDq : ∀ b ∈ D, Mq b = none := fun b hb => by
  rw [q3 b (by rw [some3 hM4 b hb]; exact hN x3 b hb), h4 b (by rw [g2 b hb]; exact hN x3 b hb)]; exact hDb b hb
 have n5 := hM4.trans hM5
 refine VIf.mk (fun hz => ?_) (fun hz => ?_)
 ·have hz : 0 < (sharA p (sqC c i)).length := of_decide_eq_true hz
  rw [if_pos hz] at hst
  repeat (first | refine VIf.tt ?_ | refine VIf.ff ?_)
  refine VYield.tb (turnX D N (touQ c p)) [.int .i64 i] (touR c p (k + 1)) ?_ ?_ ?_ ?_
  ·rw [hst]
  ·exact ⟨Mq, q2, hDq, i, q, rfl, rfl, List.mem_filter.2 ⟨hmem, decide_eq_true hz⟩, hq⟩
  ·rintro M' ⟨x6, rfl⟩
   repeat (first | refine VIf.tt ?_ | refine VIf.ff ?_)
   refine VArith.ok (by first | omega | (simp only; omega)) (by first | omega | (simp only; omega)) ?_
   exact ⟨rfl, (k + 1, M5.over D (N x6)), ⟨hlt, le_over hDb (g1.trans n5) _, x6, fun b hb => Mem.over_in hb⟩, (by first | omega | (simp only; omega)), (Wk.mk' id (by repeat' constructor) (by repeat' constructor) (injOK_id _) rfl rfl rfl)⟩
  ·intro M' _
   repeat (first | refine VIf.tt ?_ | refine VIf.ff ?_)
   exact VEndT.stop rfl
 ·have hz : ¬ 0 < (sharA p (sqC c i)).length := of_decide_eq_false hz
  rw [if_neg hz] at hst
  repeat (first | refine VIf.tt ?_ | refine VIf.ff ?_)
  refine VArith.ok (by first | omega | (simp only; omega)) (by first | omega | (simp only; omega)) ?_
  refine ⟨rfl, (k + 1, M5), ⟨hlt, g1.trans n5, x3, some3 n5⟩, (by first | omega | (simp only; omega)), Wk.mk' id (by repeat' constructor) (by repeat' constructor) (injOK_id _) rfl rfl ?_⟩
  show some ((⟨l, some (turnX D N (touQ c p))⟩ : Lp), _) = some ((⟨l, some (turnX D N (touQ c p))⟩ : Lp), _)
  rw [hst]
end Go.Proofs.YtcdlplobniogpaaGreat
namespace Go.Proofs.YtcdlplobniogpaaGreat
open Go Go.V Go.RowKit
theorem IndexI_fn (v : Value) (l : List Int) (x : Int) (M : Mem) (hv : IntsV M v l) :
  V.Fn Tryz.prog 117 [v, .int .i64 x] M fun rs _ => ∃ k : Int, rs = [.int .i64 k] ∧ (0 ≤ k ↔ l.any (fun y => decide (x = y)) = true) := by
 obtain ⟨ad, c, rfl, hm, hrd⟩ := hv.get
 refine Fn.of_vc cxOK Tryz.func117 rfl rfl rfl ?_
 refine VCode.loop cxOK Nat (fun i => ⟨[(0, .v (.slice ad l.length c)), (1, .v (.int .i64 x)), (7, .v (.int .i64 l.length)), (8, .v (.int .i64 i))], [], 0, M, 19, ⟨fun _ => none, none, fun _ => none⟩⟩)
  (fun i => i ≤ l.length ∧ ∀ j, j < i → decide (x = gi l j) = false) (fun i => l.length - i) 0 ⟨Nat.zero_le _, fun j hj => by simp at hj⟩ (Wk.mk' id (by repeat' constructor) (by repeat' constructor) (injOK_id _) rfl rfl rfl) ?_
 rintro i ⟨hi, hz⟩ m
 refine VIf.mk (fun hlt => ?_) (fun hge => ?_)
 ·have hlt := lt_of_dec hlt
  obtain ⟨ad', ead, _, hpi⟩ := hrd M (Mem.le_refl _) i hlt
  refine VIdx.mk ad' i ead rfl hlt ?_
  refine VRead.mk (.int .i64 (gi l i)) hpi ?_
  refine VIf.mk (fun hc => ?_) (fun hc => ?_)
  ·refine VFact.mk ⟨i, rfl, ?_⟩ trivial
   have := any_getD 0 (fun y => decide (x = y)) l hlt hc
   simp only [this]; simp
  ·refine VArith.ok (by first | omega | (simp only; omega)) (by first | omega | (simp only; omega)) ?_
   refine ⟨i + 1, ⟨hlt, fun j hj => ?_⟩, (by first | omega | (simp only; omega)), (Wk.mk' id (by repeat' constructor) (by repeat' constructor) (injOK_id _) rfl rfl rfl)⟩
   by_cases e : j = i
   ·subst e; exact hc
   ·exact hz j (by omega)
 ·have : i = l.length := by have := ge_of_dec hge; omega
  subst this
  refine VFact.mk ⟨-1, rfl, ?_⟩ trivial
  have := any_none 0 (fun y => decide (x = y)) l hz
  simp only [this]; simp
theorem ContainsI_fn (v : Value) (l : List Int) (x : Int) (M : Mem) (hv : IntsV M v l) :
  V.Fn Tryz.prog 66 [v, .int .i64 x] M fun rs _ => rs = [.bool (decide (x ∈ l))] := by
 obtain ⟨ad, c, rfl, hm, hrd⟩ := hv.get
 refine Fn.of_vc cxOK Tryz.func66 rfl rfl rfl ?_
 refine VFn.mk _ (IndexI_fn _ l x M hv) ?_
 rintro rs M1 hM1 ⟨k, rfl, hk⟩
 refine VFact.mk (bool1 ?_) trivial
 simp only [List.any_eq_true, decide_eq_true_eq] at hk
 simp only [decide_eq_true_eq]
 show 0 ≤ k ↔ x ∈ l
 rw [hk]
 exact ⟨fun ⟨y, h1, h2⟩ => h2 ▸ h1, fun h => ⟨x, h, rfl⟩⟩
end Go.Proofs.YtcdlplobniogpaaGreat
namespace Go.Proofs.YtcdlplobniogpaaGreat
open Go Go.V Go.RowKit
set_option maxRecDepth 20000 in
set_option maxHeartbeats 2000000 in
theorem put_call0 {c : ChartS} {a b d x y w cv n : Value} {al : Bool} {B Bp Bs : Nat} {k : Nat} {xs : List Value} {M : Mem} {G : Gh} {K : SV → St → Prop} {u : Value} {ua : Option Addr} {un uc : Nat} (hu : u = .slice ua un uc) (hk : k = xs.length) (hl : xs.length ≤ 1000000)
  (hK : K (.v (.tuple #[])) ⟨[(1, .v w), (3, .box 3 0), (5, .box 4 0), (6, .box 5 0), (7, .v n), (8, .box 6 0)], [(0, some (.box 71 [.v (.int .i64 c.ver), .v (.int .i64 c.x), .v (.int .i64 c.y), .v (.int .i64 c.w), .v (.int .i64 c.h), .v (.int .i64 c.sz), .v a, .v b, .v d, .v x, .row 1])), (1, some (.row 64 1 (xs ++ [u]).length (xs ++ [u]))), (2, some (.gh 12 y (.box 0 0))), (3, some (.box 66 [.box 0 0])), (4, some (.box 30 [.v cv])), (5, some (.box 105 [.clo 65 [.box 0 0] []])), (6, some (.box 4 [.v (.bool al)])), (7, some (.box 64 [.v w])), (8, some (.box 66 [.box 0 0])), (9, some (.gh 900 (.pointer (some ⟨B, 0, none⟩)) (.box 0 0))), (10, some (.gh 901 (.pointer (some ⟨Bp, 0, none⟩)) (.box 7 0))), (11, some (.gh 902 (.pointer (some ⟨Bs, 0, none⟩)) (.box 8 0)))], 12, M, 104, G⟩) :
  VCall Tryz.prog 65 [.box 0 0, .v u] ⟨[(1, .v w), (3, .box 3 0), (5, .box 4 0), (6, .box 5 0), (7, .v n), (8, .box 6 0)], [(0, some (.box 71 [.v (.int .i64 c.ver), .v (.int .i64 c.x), .v (.int .i64 c.y), .v (.int .i64 c.w), .v (.int .i64 c.h), .v (.int .i64 c.sz), .v a, .v b, .v d, .v x, .row 1])), (1, some (.row 64 1 k xs)), (2, some (.gh 12 y (.box 0 0))), (3, some (.box 66 [.box 0 0])), (4, some (.box 30 [.v cv])), (5, some (.box 105 [.clo 65 [.box 0 0] []])), (6, some (.box 4 [.v (.bool al)])), (7, some (.box 64 [.v w])), (8, some (.box 66 [.box 0 0])), (9, some (.gh 900 (.pointer (some ⟨B, 0, none⟩)) (.box 0 0))), (10, some (.gh 901 (.pointer (some ⟨Bp, 0, none⟩)) (.box 7 0))), (11, some (.gh 902 (.pointer (some ⟨Bs, 0, none⟩)) (.box 8 0)))], 12, M, 104, G⟩ K := by
 subst hu; subst hk
 refine VCall.post ?_
 refine VCall.inline cxOK Tryz.func65 rfl rfl rfl [(3, .box 3 0), (5, .box 4 0), (6, .box 5 0), (8, .box 6 0)] [(1, w), (7, n)] (by repeat' constructor) (by repeat' constructor) ?_
 intro val f0
 have hb : (xs.length + 1) * 24 ≤ 140737488355328 := by omega
 refine VFact.mk hb ?_
 refine VFact.mk (fun _ _ h => h) ?_
 refine VFact.mk (fun _ => rfl) ?_
 repeat refine VFact.mk rfl ?_
 refine ⟨.v (.tuple #[]), _, ?_, hK⟩
 refine ⟨⟨fun i => if i = 1 then 17 else i, rfl, rfl, ?_, ?_, ?_⟩, rfl, rfl, rfl⟩
 ·repeat' constructor
 ·refine ⟨?_, ⟨rfl, ⟨rfl, rfl, ?_, rfl⟩⟩, ?_⟩
  ·repeat' constructor
  ·exact List.length_append
  ·repeat' constructor
 ·exact injOK_b rfl
set_option maxRecDepth 20000 in
set_option maxHeartbeats 2000000 in
theorem put_call1 {c : ChartS} {a b d x y : Value} {k : Nat} {xs : List Value} {M : Mem} {G : Gh} {K : SV → St → Prop} {z1 z2 z3 : Value} {u : Value} {ua : Option Addr} {un uc : Nat} (hu : u = .slice ua un uc) (hk : k = xs.length) (hl : xs.length ≤ 1000000)
  (hK : K (.v (.tuple #[])) ⟨[(6, .box 3 0), (94, .v z1), (95, .v z2), (96, .v z3)], [(0, some (.box 71 [.v (.int .i64 c.ver), .v (.int .i64 c.x), .v (.int .i64 c.y), .v (.int .i64 c.w), .v (.int .i64 c.h), .v (.int .i64 c.sz), .v a, .v b, .v d, .v x, .row 1])), (1, some (.row 64 1 (xs ++ [u]).length (xs ++ [u]))), (2, some (.gh 12 y (.box 0 0))), (3, some (.box 105 [.clo 65 [.box 0 0] []]))], 4, M, 104, G⟩) :
  VCall Tryz.prog 65 [.box 0 0, .v u] ⟨[(6, .box 3 0), (94, .v z1), (95, .v z2), (96, .v z3)], [(0, some (.box 71 [.v (.int .i64 c.ver), .v (.int .i64 c.x), .v (.int .i64 c.y), .v (.int .i64 c.w), .v (.int .i64 c.h), .v (.int .i64 c.sz), .v a, .v b, .v d, .v x, .row 1])), (1, some (.row 64 1 k xs)), (2, some (.gh 12 y (.box 0 0))), (3, some (.box 105 [.clo 65 [.box 0 0] []]))], 4, M, 104, G⟩ K := by
 subst hu; subst hk
 refine VCall.post ?_
 refine VCall.inline cxOK Tryz.func65 rfl rfl rfl [(6, .box 3 0)] [(94, z1), (95, z2), (96, z3)] (by repeat' constructor) (by repeat' constructor) ?_
 intro val f0
 have hb : (xs.length + 1) * 24 ≤ 140737488355328 := by omega
 refine VFact.mk hb ?_
 refine VFact.mk (fun _ _ h => h) ?_
 refine VFact.mk (fun _ => rfl) ?_
 repeat refine VFact.mk rfl ?_
 refine ⟨.v (.tuple #[]), _, ?_, hK⟩
 refine ⟨⟨fun i => if i = 1 then 6 else i, rfl, rfl, ?_, ?_, ?_⟩, rfl, rfl, rfl⟩
 ·repeat' constructor
 ·refine ⟨?_, ⟨rfl, ⟨rfl, rfl, ?_, rfl⟩⟩, ?_⟩
  ·repeat' constructor
  ·exact List.length_append
  ·repeat' constructor
 ·exact injOK_b rfl
set_option maxRecDepth 20000 in
set_option maxHeartbeats 2000000 in
theorem touched_call {c : ChartS} {a b d x y w cv n : Value} {al : Bool} {k : Nat} {xs : List Value} {M : Mem} {G : Gh} {K : SV → St → Prop} {wa : Option Addr} {wn wk : Nat} (hw : w = .slice wa wn wk)
  (hK : K (.clo 58 [] [.box 7 0, .box 8 0]) ⟨[(1, .v w), (3, .box 3 0), (5, .box 4 0), (6, .box 5 0), (7, .v n), (8, .box 6 0)], [(0, some (.box 71 [.v (.int .i64 c.ver), .v (.int .i64 c.x), .v (.int .i64 c.y), .v (.int .i64 c.w), .v (.int .i64 c.h), .v (.int .i64 c.sz), .v a, .v b, .v d, .v x, .row 1])), (1, some (.row 64 1 k xs)), (2, some (.gh 12 y (.box 0 0))), (3, some (.box 66 [.box 0 0])), (4, some (.box 30 [.v cv])), (5, some (.box 105 [.clo 65 [.box 0 0] []])), (6, some (.box 4 [.v (.bool al)])), (7, some (.box 64 [.v w])), (8, some (.box 66 [.box 0 0]))], 9, M, 104, G⟩) :
  VCall Tryz.prog 36 [.box 0 0, .v w] ⟨[(1, .v w), (3, .box 3 0), (5, .box 4 0), (6, .box 5 0), (7, .v n), (8, .box 6 0)], [(0, some (.box 71 [.v (.int .i64 c.ver), .v (.int .i64 c.x), .v (.int .i64 c.y), .v (.int .i64 c.w), .v (.int .i64 c.h), .v (.int .i64 c.sz), .v a, .v b, .v d, .v x, .row 1])), (1, some (.row 64 1 k xs)), (2, some (.gh 12 y (.box 0 0))), (3, some (.box 66 [.box 0 0])), (4, some (.box 30 [.v cv])), (5, some (.box 105 [.clo 65 [.box 0 0] []])), (6, some (.box 4 [.v (.bool al)]))], 7, M, 104, G⟩ K := by
 subst hw
 refine VCall.post ?_
 refine VCall.inline cxOK Tryz.func36 rfl rfl rfl [(3, .box 3 0), (5, .box 4 0), (6, .box 5 0), (8, .box 6 0)] [(1, .slice wa wn wk), (7, n)] (by repeat' constructor) (by repeat' constructor) ?_
 intro val f0
 refine VFact.mk (fun _ _ h => h) ?_
 refine VFact.mk (fun _ => rfl) ?_
 repeat refine VFact.mk rfl ?_
 refine ⟨.clo 58 [] [.box 7 0, .box 8 0], _, ?_, hK⟩
 refine ⟨⟨fun i => if i = 7 then 12 else if i = 8 then 11 else i, rfl, rfl, ?_, ?_, ?_⟩, rfl, rfl, rfl⟩
 ·repeat' constructor
 ·repeat' constructor
 ·exact injOK_b rfl
end Go.Proofs.YtcdlplobniogpaaGreat
namespace Go.V
open Go Go.RowKit
variable {P : Program}
structure Hd (MH : Mem) (st : St) : Prop where
 h : ∀ n₀ w M₀ ρ W, SatH n₀ w M₀ ρ st W → MH.ok W
def vcTH (C : VX) (P : Program) (ops : List Oper) (vs es : List Nat) (MH : Mem) : Nat → List Nat → St → (St → Prop) → Prop
 | 0, _, st, k => k st
 | f + 1, D, st, k => match nextV ops vs D with
  | some i => match ops[i]? with
   | some o => guardV ops st o (fun st => barV C P MH st o fun s => st.putv o.dst s fun st' => vcTH C P ops vs es MH f (i :: D) st' k) (fun st => st.putv o.dst (.v (.tuple #[])) fun st' => vcTH C P ops vs es MH f (i :: D) st' k)
   | none => VStuck 221
  | none => allC (es.filter (rdyB ops D)) fun i => match ops[i]? with
   | some o => guardV ops st o (fun st => step C P st o fun st' => VFact (Hd MH st') (vcTH C P ops vs es MH f (i :: D) st' k)) (fun st => st.putv o.dst (.v (.tuple #[])) fun st' => vcTH C P ops vs es MH f (i :: D) st' k)
   | none => VStuck 222
theorem vcTH_sound {C : VX} (hC : VXOK P C) {r : Option Nat} {n : Nat} {κ : Yt → Bs → Prop} {fx : Nat → Prop} {tm : Array Value} {ops : Array Oper} {vs es : List Nat} (hes : ∀ i, i < ops.toList.length → i ∉ vs → i ∈ es) {k : St → Prop} {G : Gh} {Q : Exit → Act → World → Prop} (hQ : ∀ a W, KK κ G k a W → Keep fx tm a → Q .normal a W) (hw : ∀ o ∈ ops.toList, ∀ d, o.dst = some d → ¬ fx d) {B : Bs} {MH : Mem} (hlow : ∀ b, b < B.n₀ → MH b = B.M₀ b) :
  ∀ (f : Nat) {D : List Nat} {ρ : Env} {st : St} {a : Act} {W : World}, vcTH C P ops.toList vs es MH f D st k → κ st.G.Y B → Sat B.n₀ B.w B.M₀ ρ st a W → G.lq st.G → Keep fx tm a → KeepW B MH W → eagT (WR.keep (KeepW B MH)) (Fw r) n P ops vs Q f D a W := by
 intro f
 induction f with
 | zero => intro D ρ st a W hk hκ h hG hkp _; exact hQ a W ⟨B, ρ, st, hκ, h, hG, hk⟩ hkp
 | succ f ih =>
  intro D ρ st a W hk hκ h hG hkp kw
  have skip : ∀ {i : Nat} {o : Oper}, (∀ d, o.dst = some d → ¬ fx d) → ∀ {st1 : St}, Sat B.n₀ B.w B.M₀ ρ st1 a W → st1.G = st.G → (st1.putv o.dst (.v (.tuple #[])) fun st' => vcTH C P ops.toList vs es MH f (i :: D) st' k) → eagT (WR.keep (KeepW B MH)) (Fw r) n P ops vs Q f (i :: D) (a.put o.dst undef) W := by
   intro i o hwo st1 h1 hG1 hB
   obtain ⟨j1, j2⟩ := putv_elim hB h1 (by trivial)
   exact ih j2 (by rw [put_G, hG1]; exact hκ) j1 (by rw [put_G, hG1]; exact hG) (hkp.put hwo _) kw
  unfold vcTH at hk
  unfold eagT
  split at hk
  ·rename_i i hn
   simp only [hn]
   split at hk
   ·rename_i o ho
    have ho' : ops[i]? = some o := by simpa using ho
    have hwo := hw o (List.mem_of_getElem? ho)
    refine ⟨o, ho', ?_⟩
    obtain ⟨st1, h1, hG1, hM1, hcase⟩ := guard_soundM h hk
    rcases hcase with ⟨hw', hA⟩ | ⟨hw', hB⟩
    ·obtain ⟨sl, ow, nx, M1, nt, G1⟩ := st1
     have hbH : ∀ W', KeepW B MH W' → SatH B.n₀ B.w B.M₀ ρ ⟨sl, [], nx, MH, nt, ⟨fun _ => none, none, fun _ => none⟩⟩ W' := fun W' hk =>
      ⟨hk.1, hk.2.1, hk.2.2, fun id e he => (by cases he), fun i j ei ej hi => (by cases hi), fun i e b hi => (by cases hi), fun b o hb => (by cases hb), hlow, fun b o hb => (by cases hb)⟩
     have hbs : Sat B.n₀ B.w B.M₀ ρ ⟨sl, [], nx, MH, nt, ⟨fun _ => none, none, fun _ => none⟩⟩ { a with defers := [] } W := ⟨hbH W kw, h1.nt, h1.sl, trivial⟩
     obtain ⟨_, s, q1, q2, q3⟩ := val_sound hC hA hbs
     obtain ⟨j1, j2⟩ := putv_elim q3 h1 q1
     exact ⟨s.den ρ, fun W' hb => .inl ⟨hw', q2 W' (hbH W' (hb kw))⟩, fun _ _ _ _ => trivial, ih j2 (by rw [put_G, hG1]; exact hκ) j1 (by rw [put_G, hG1]; exact hG) (hkp.put hwo _) kw⟩
    ·exact ⟨undef, fun W' hb => .inr ⟨hw', rfl⟩, fun _ _ _ _ => trivial, skip hwo h1 hG1 hB⟩
   ·cases hk
  ·rename_i hn
   simp only [hn]
   intro i hi
   have hi' : i ∈ es.filter (rdyB ops.toList D) := by
    obtain ⟨h1, h2⟩ := List.mem_filter.1 hi
    refine List.mem_filter.2 ⟨hes i (List.mem_range.1 h1) fun hv => ?_, h2⟩
    exact absurd h2 (List.find?_eq_none.1 hn i hv)
   have hk := allC_mem hk i hi'
   split at hk
   ·rename_i o ho
    have ho' : ops[i]? = some o := by simpa using ho
    have hwo := hw o (List.mem_of_getElem? ho)
    obtain ⟨st1, h1, hG1, hM1, hcase⟩ := guard_soundM h hk
    unfold wpOpIn
    simp only [ho']
    rcases hcase with ⟨hw', hA⟩ | ⟨hw', hB⟩
    ·rw [if_pos hw']
     refine Oper.wpIn_mono ?_ (op_keep (step_sound hC hA h1) hwo hkp)
     rintro a' W' ⟨⟨ρ', st', g1, g2, g3⟩, hkp'⟩
     cases g3 with
     | mk hd hk' =>
      have kw' : KeepW B MH W' := ⟨g1.h.below, g1.h.size, hd.h _ _ _ _ _ g1.h⟩
      exact ⟨fun _ => kw', ih hk' (by rw [g2.2, hG1]; exact hκ) g1 (hG.trans (by rw [← hG1]; exact g2.1)) hkp' kw'⟩
    ·rw [if_neg (by rw [hw']; exact Bool.false_ne_true)]
     exact ⟨fun _ _ => trivial, fun h => h, skip hwo h1 hG1 hB⟩
   ·cases hk
theorem VCode.drawsH {C : VX} (hC : VXOK P C) {id : Nat} {ops : Array Oper} {st : St} {Q : Ex → St → Prop} (vs es : List Nat) (MH : Mem) (hok : (statOK ops vs (tabOf ops.toList) && coverB ops.toList.length vs es) = true) (hd : Hd MH st) (hlow : ∀ n₀ w M₀ ρ W, SatH n₀ w M₀ ρ st W → ∀ b, b < n₀ → MH b = st.M b) (S : Type) (inv : S → St) (pf : S → Prop)
  (walk : vcTH C P ops.toList vs es MH ops.toList.length [] st fun st' => ∃ s, pf s ∧ Wk st' (inv s))
  (rest : st.withYf fun _ f => ∀ s m, pf s → (inv s).flatG m f (Q .normal)) : VCode P (.region id ops true) st Q := by
 obtain ⟨hok, hcov⟩ := Bool.and_eq_true .. ▸ hok
 refine ⟨fun r n κ B ρ a W fx tm hY hr hκ h hwr hkp => ?_⟩
 refine wpIn_region_eagT (R := WR.keep (KeepW B MH)) (vs := vs) (tab := tabOf ops.toList) hC.mixed hok ?_ ?_
 ·rintro c a' w' ⟨⟨ex, he, _⟩, _⟩; cases he
 ·rw [show ops.toList.length = ops.size from Array.length_toList] at walk
  have hg := h.grow (W' := { W with drawn := W.drawn + 1 }) (Below.drew (Below.refl _ W)) (M' := st.M) h.h.mem (fun _ _ => rfl)
  refine vcTH_sound hC (coverB_spec hcov) (G := st.G) (k := fun st' => ∃ s, pf s ∧ Wk st' (inv s)) (fun a W hK hkp => ⟨⟨.normal, rfl, ?_⟩, hkp⟩) hwr (fun b hb => (hlow _ _ _ _ _ h.h b hb).trans (h.h.mlow b hb)) _ walk hκ hg (Gh.lq_refl _) hkp ⟨hg.h.below, hg.h.size, hd.h _ _ _ _ _ hg.h⟩
  obtain ⟨B', ρ', st', hκ', g1, g2, s, hp, hwk⟩ := hK
  obtain ⟨ρ1, hs1⟩ := hwk.imp st'.G _ _ _ ρ' a W g1
  have hq := flatG_iff (withYf_iff rest s st'.G.m hp)
  have hf : st'.G.f = st.G.f := g2.2
  refine ⟨B', ρ1, _, ?_, ?_, ?_, hq⟩
  ·rw [← hwk.y]; exact hκ'
  ·rw [← hwk.y, ← hf]; exact hs1
  ·exact ⟨g2.1, rfl⟩
theorem VCode.slotV {c : Code} {st : St} {Q : Ex → St → Prop} (d g : Nat) {tag : Nat} {v : Value} {s : SV} (hd : look st.sl d = some s) (hg : st.own g = some (.gh tag v s))
  (h : st.dK fun sl ow nx M nt G => VCode P c ⟨(d, .v v) :: sl, ow, nx, M, nt, G⟩ Q) : VCode P c st Q := by
 refine ⟨fun r n κ B ρ a W fx tm hY hr hκ hs hwr hkp => ?_⟩
 obtain ⟨_, _, _, h4⟩ := hs.h.own g _ hg
 refine (dK_iff h).run r n κ B ρ a W fx tm hY hr hκ ⟨⟨hs.h.below, hs.h.size, hs.h.mem, hs.h.own, hs.h.sep, hs.h.msep, hs.h.pin, hs.h.mlow, hs.h.fpin⟩, hs.nt, ?_, hs.marks⟩ hwr hkp
 intro d' s' hd'
 simp only [look] at hd'
 cases he : d'.beq d with
 | true =>
  rw [he] at hd'
  cases hd'
  have he := Nat.eq_of_beq_eq_true he
  subst he
  obtain ⟨k1, k2, k3⟩ := hs.sl _ _ hd
  exact ⟨k1, trivial, by rw [k3, h4]; rfl⟩
 | false =>
  rw [he] at hd'
  exact hs.sl _ _ hd'
theorem VCode.nameV {c : Code} {st : St} {Q : Ex → St → Prop} (tag : Nat) (s : SV) (hs : ∀ n₀ w M₀ ρ W, SatH n₀ w M₀ ρ st W → s.sc st.nx)
  (h : ∀ v, st.dK fun sl ow nx M nt G => VCode P c ⟨sl, (nx, some (.gh tag v s)) :: ow, nx + 1, M, nt, G⟩ Q) : VCode P c st Q := by
 refine ⟨fun r n κ B ρ a W fx tm hY hr hκ hsa hwr hkp => ?_⟩
 have hsc := hs _ _ _ _ _ hsa.h
 have h4 := hsa.h.add (.gh tag (s.den ρ) s) (.bool true) (Below.refl _ _) hsc ⟨by rw [upd_same]; rfl, SV.den_agree (agree_upd ρ st.nx _) hsc⟩ (fun b hb => by cases hb)
 have h5 := hsa.env h4 (agree_upd ρ st.nx _) (Nat.le_succ _) rfl rfl rfl
 exact (dK_iff (h (s.den ρ))).run r n κ B _ a W fx tm hY hr hκ h5 hwr hkp
theorem SatH.held {n₀ : Nat} {w : World} {M₀ : Mem} {ρ : Env} {st : St} {W : World} (h : SatH n₀ w M₀ ρ st W) {id g tag B : Nat} {t : TypeId} {cs : List SV} (hid : st.own id = some (.box t cs)) (hg : st.own g = some (.gh tag (.pointer (some ⟨B, 0, none⟩)) (.box id 0))) : n₀ ≤ B := by
 obtain ⟨_, _, B', h1, h2, h3⟩ := h.own id _ hid
 obtain ⟨_, _, _, h4⟩ := h.own g _ hg
 simp only [SV.den, h1, blkOf] at h4
 cases h4
 exact h2
theorem SatH.gh {n₀ : Nat} {w : World} {M₀ : Mem} {ρ : Env} {st : St} {W : World} (h : SatH n₀ w M₀ ρ st W) {g tag : Nat} {v : Value} {s : SV} (hg : st.own g = some (.gh tag v s)) : s.den ρ = v := (h.own g _ hg).2.2.2
end Go.V
