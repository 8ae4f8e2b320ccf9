/- Contracts: absent.Inner; the reference's Shift and Inner. -/
import Derived.Test.YtdfhnemhkpplbaaGreatDoorHa9
set_option linter.unusedVariables false
set_option linter.unusedSimpArgs false
namespace Go.Proofs.YtdfhnemhkpplbaaGreatDoor
open Go Go.V Go.RowKit
theorem moveP_take (q : Pt) (ps : List Pt) {i : Nat} (h : i < ps.length) : moveP q (ps.take (i + 1)) = moveP q (ps.take i) ++ [((gp ps i).1 + q.1, (gp ps i).2 + q.2)] := take_map q ps h
set_option maxHeartbeats 2000000 in
theorem Moved06_fn (v : Value) (ps : List Pt) (q : Pt) (M : Mem) (hv : Pts M v ps) (hC : ∀ p ∈ ps, placeB p = true) (hq : placeB q = true) (hl : ps.length ≤ 1000) :
  V.Fn Tryz.prog 56 [v, ptv q] M fun rs M' => ∃ u, rs = [u] ∧ Pts M' u (moveP q ps) := by
 obtain ⟨ad, c, rfl⟩ := hv.shape
 obtain ⟨_, hm, hrd⟩ := hv.cellsOf
 have hq := place_box.1 hq
 refine Fn.of_vcode cxOK Tryz.func56 rfl rfl rfl ?_
 repeat (first | refine VIf.tt ?_ | refine VIf.ff ?_)
 refine VCode.st cxOK ?_
 repeat (first | refine VIf.tt ?_ | refine VIf.ff ?_)
 refine VCode.st cxOK ?_
 repeat (first | refine VIf.tt ?_ | refine VIf.ff ?_)
 refine VCode.seq ?_
 repeat (first | refine VIf.tt ?_ | refine VIf.ff ?_)
 refine VCode.st cxOK ?_
 repeat (first | refine VIf.tt ?_ | refine VIf.ff ?_)
 refine VCode.block ?_
 repeat (first | refine VIf.tt ?_ | refine VIf.ff ?_)
 refine VCode.loopC Nat (fun i => ⟨[(0, .v (.slice ad ps.length c)), (3, .box 0 0), (5, .row 1), (6, .v (.int .i64 i))], [(0, some (.box 24 [.v (.int .i64 q.1), .v (.int .i64 q.2)])), (1, some (.row 24 2 (moveP q (ps.take i)).length (cellsP (moveP q (ps.take i)))))], 2, M, 34, ⟨fun _ => none, none, fun _ => none⟩⟩)
  (fun i => i ≤ ps.length) (fun i => ps.length - i) 0 (Nat.zero_le _) (Wk.nil 5 24 2 rfl (Wk.mk' id (by repeat' constructor) (by repeat' constructor) (injOK_id _) rfl rfl rfl)) ?_
 rintro i hi m
 repeat (first | refine VIf.tt ?_ | refine VIf.ff ?_)
 refine VCode.st cxOK ?_
 repeat (first | refine VIf.tt ?_ | refine VIf.ff ?_)
 refine VIf.mk (fun hlt => ?_) (fun hge => ?_)
 ·have hlt := lt_of_dec hlt
  obtain ⟨ad', rfl, hp⟩ := hrd M (Mem.le_refl _) i hlt
  have hC := place_box.1 (hC _ (gp_mem hlt))
  have hst := moveP_take q ps hlt
  have hml : (moveP q (ps.take i)).length = i := by rw [len_move, List.length_take]; omega
  repeat (first | refine VIf.tt ?_ | refine VIf.ff ?_)
  refine VCode.of_vc cxOK ?_
  repeat (first | refine VIf.tt ?_ | refine VIf.ff ?_)
  refine VDraw.go (by kernel_rfl) ?_
  repeat (first | refine VIf.tt ?_ | refine VIf.ff ?_)
  refine VIdx.mk ad' i rfl rfl hlt ?_
  repeat (first | refine VIf.tt ?_ | refine VIf.ff ?_)
  refine VRead.mk (.int .i64 (gp ps i).1) (hp 0 _ rfl) ?_
  repeat (first | refine VIf.tt ?_ | refine VIf.ff ?_)
  refine VArith.ok (by first | omega | (simp only; omega)) (by first | omega | (simp only; omega)) ?_
  repeat (first | refine VIf.tt ?_ | refine VIf.ff ?_)
  refine VIdx.mk ad' i rfl rfl hlt ?_
  repeat (first | refine VIf.tt ?_ | refine VIf.ff ?_)
  refine VRead.mk (.int .i64 (gp ps i).2) (hp 1 _ rfl) ?_
  repeat (first | refine VIf.tt ?_ | refine VIf.ff ?_)
  refine VArith.ok (by first | omega | (simp only; omega)) (by first | omega | (simp only; omega)) ?_
  repeat (first | refine VIf.tt ?_ | refine VIf.ff ?_)
  refine VFact.mk (by rw [hml]; show (i + 1) * 16 ≤ 140737488355328; omega) ?_
  repeat (first | refine VIf.tt ?_ | refine VIf.ff ?_)
  refine VArith.ok (by first | omega | (simp only; omega)) (by first | omega | (simp only; omega)) ?_
  refine ⟨i + 1, hlt, (by first | omega | (simp only; omega)), Wk.mk' (fun i => if i = 1 then 3 else i) (by repeat' constructor) ?_ (injOK_b rfl) rfl rfl rfl⟩
  repeat' constructor
  ·rw [hst, List.length_append]; rfl
  ·rw [hst, cells_app1]
 ·have : i = ps.length := by have := ge_of_dec hge; omega
  subst this
  repeat (first | refine VIf.tt ?_ | refine VIf.ff ?_)
  refine VCode.of_vc cxOK ?_
  repeat (first | refine VIf.tt ?_ | refine VIf.ff ?_)
  refine VFz.mk fun u Bu M1 hM1 hu => ?_
  repeat (first | refine VIf.tt ?_ | refine VIf.ff ?_)
  refine VFact.mk ⟨u, rfl, ?_⟩ trivial
  rw [List.take_length] at hu
  exact hu
theorem places06_fn (v : Value) (ps : List Pt) (M : Mem) (hv : Pts M v ps) (h64 : i64P ps) : FnP Tryz.prog 57 [v] M [.bool (ps.all placeB)] := by
 obtain ⟨ad, c, rfl⟩ := hv.shape
 obtain ⟨_, hm, hrd⟩ := hv.cellsOf
 unfold maxLen at hm
 refine Fn.of_vc cxOK Tryz.func57 rfl rfl rfl ?_
 repeat (first | refine VIf.tt ?_ | refine VIf.ff ?_)
 refine VCode.loop cxOK Nat (fun i => ⟨[(0, .v (.slice ad ps.length c)), (3, .v (.int .i64 i))], [], 0, M, 16, ⟨fun _ => none, none, fun _ => none⟩⟩)
  (fun i => i ≤ ps.length ∧ ∀ j, j < i → placeB (gp ps j) = true) (fun i => ps.length - i) 0 ⟨Nat.zero_le _, fun j hj => by omega⟩ (Wk.mk' id (by repeat' constructor) (by repeat' constructor) (injOK_id _) rfl rfl rfl) ?_
 rintro i ⟨hi, hz⟩ m
 repeat (first | refine VIf.tt ?_ | refine VIf.ff ?_)
 refine VIf.mk (fun hlt => ?_) (fun hge => ?_)
 ·have hlt := lt_of_dec hlt
  obtain ⟨ad', rfl, hp⟩ := hrd M (Mem.le_refl _) i hlt
  repeat (first | refine VIf.tt ?_ | refine VIf.ff ?_)
  refine VIdx.mk ad' i rfl rfl hlt ?_
  repeat (first | refine VIf.tt ?_ | refine VIf.ff ?_)
  refine VReads.mk [.int .i64 (gp ps i).1, .int .i64 (gp ps i).2] rfl hp ?_
  repeat (first | refine VIf.tt ?_ | refine VIf.ff ?_)
  refine VFn.p (Place_fn _ _ M) ?_
  repeat (first | refine VIf.tt ?_ | refine VIf.ff ?_)
  refine VIf.mk (fun e => ?_) (fun e => ?_)
  ·repeat (first | refine VIf.tt ?_ | refine VIf.ff ?_)
   refine VFact.mk ⟨?_, rfl⟩ trivial
   have : ps.all placeB = false := by
    cases h : ps.all placeB with
    | false => rfl
    | true =>
     have h1 := List.all_eq_true.1 h _ (gp_mem hlt)
     have e : placeB (gp ps i) = false := bn1 e
     rw [h1] at e; cases e
   rw [this]
  ·repeat (first | refine VIf.tt ?_ | refine VIf.ff ?_)
   refine VArith.ok (by first | omega | (simp only; omega)) (by first | omega | (simp only; omega)) ?_
   refine ⟨i + 1, ⟨hlt, fun j hj => ?_⟩, (by first | omega | (simp only; omega)), (Wk.mk' id (by repeat' constructor) (by repeat' constructor) (injOK_id _) rfl rfl rfl)⟩
   by_cases ej : j = i
   ·subst ej; exact bn2 e
   ·exact hz j (by omega)
 ·have : i = ps.length := by have := ge_of_dec hge; omega
  subst this
  repeat (first | refine VIf.tt ?_ | refine VIf.ff ?_)
  refine VFact.mk ⟨?_, rfl⟩ trivial
  rw [List.all_eq_true.2 fun y hy => by obtain ⟨j, hj, rfl⟩ := mem_gp hy; exact hz j hj]
theorem Shift06_fn (v : Value) (ps : List Pt) (q : Pt) (M : Mem) (hv : Pts M v ps) (hV : validB ps = true) (hP : placeB q = true) :
  V.Fn Tryz.prog 28 [v, ptv q] M fun rs M' => if (moveP q ps).all placeB = true then ∃ u, rs = [u, .int .i64 0] ∧ Pts M' u (moveP q ps) else rs = [.slice none 0 0, .int .i64 3] := by
 have h64 : i64P ps := mem_64 (valid_mem hV)
 have hVR := fun M' (hM : M.le M') => ValidR_is (hv.le hM) h64 hV
 obtain ⟨ad, c, rfl⟩ := hv.shape
 have hl := valid_len hV
 refine Fn.of_vc cxOK Tryz.func28 rfl rfl rfl ?_
 repeat (first | refine VIf.tt ?_ | refine VIf.ff ?_)
 refine VFn.p (hVR M (Mem.le_refl _)) ?_
 repeat (first | refine VIf.tt ?_ | refine VIf.ff ?_)
 refine VFn.p (Place_is hP) ?_
 repeat (first | refine VIf.tt ?_ | refine VIf.ff ?_)
 refine VFn.mk _ (Moved06_fn _ ps q M hv (fun y hy => valid_mem hV y hy) hP (by omega)) ?_
 rintro rs M1 hM1 ⟨u, rfl, hu⟩
 obtain ⟨ud, uc, rfl⟩ := hu.shape
 have hC := fun y hy => place_box.1 (valid_mem hV y hy)
 have hq := place_box.1 hP
 have hu64 : i64P (moveP q ps) := fun i hi => by
  have hi' : i < ps.length := by simpa [moveP] using hi
  have hc := hC _ (gp_mem hi')
  rw [gp_move q hi']
  unfold mv i64r
  simp only
  omega
 repeat (first | refine VIf.tt ?_ | refine VIf.ff ?_)
 refine VFn.p (places06_fn _ _ M1 hu hu64) ?_
 repeat (first | refine VIf.tt ?_ | refine VIf.ff ?_)
 refine VIf.mk (fun e => ?_) (fun e => ?_)
 ·repeat (first | refine VIf.tt ?_ | refine VIf.ff ?_)
  refine VFact.mk ?_ trivial
  show (if _ then _ else _)
  rw [if_neg (fun h => by rw [bn1 e] at h; cases h)]
 ·repeat (first | refine VIf.tt ?_ | refine VIf.ff ?_)
  refine VFact.mk ?_ trivial
  show (if _ then _ else _)
  rw [if_pos (bn2 e)]
  exact ⟨_, rfl, hu⟩
def InnR (x : Pt) (d : Int) (rs : List Value) (M : Mem) : Prop :=
 if placeB x = true ∧ (0 ≤ d ∧ d ≤ 100000) then (if d = 0 then rs = [.slice none 0 0, .bool false, .int .i64 0] else if innOK x d = true then ∃ u, rs = [u, .bool true, .int .i64 0] ∧ Pts M u (innP x d) else rs = [.slice none 0 0, .bool false, .int .i64 3]) else rs = [.slice none 0 0, .bool false, .int .i64 1]
def sgnP : List Pt := [(-1, 0), (-1, -1), (0, -1), (1, -1), (1, 0), (1, 1), (0, 1), (-1, 1)]
theorem sgn_cells : sgnC = (cellsP sgnP).toArray := rfl
theorem innL_take (m k : Int) {i : Nat} (h : i < 8) : (innL m k).take (i + 1) = (innL m k).take i ++ [gp (innL m k) i] := take_gp _ (by simp [innL]; omega)
theorem hull_inn {m : Int} (h : 0 ≤ m ∧ m ≤ 99999) : hullB (innL m (innK m)) = (innA m, 0) := by
 unfold hullB
 have hl := hl_len (innA_hl m)
 have h8 : (innL m (innK m)).length = 8 := rfl
 rw [if_neg (by omega), if_neg, if_neg]
 ·rfl
 ·show ¬ 64 < (innA m).length
  omega
 ·rintro (h1 | h1)
  ·exact innL_ne _ _ h1
  ·rw [List.all_eq_true.2 fun y hy => innL_place h y hy] at h1; cases h1
theorem refl_hl {m : Int} : Hl [(m, 0), (0, m), (-m, 0), (0, -m), (innK m, innK m), (-innK m, innK m), (-innK m, -innK m), (innK m, -innK m)] (innA m) := by
 refine (innA_hl m).congr fun x => ?_
 simp only [innL, List.mem_cons, List.not_mem_nil, or_false]
 constructor <;> (rintro (h | h | h | h | h | h | h | h) <;> simp [h])
set_option maxRecDepth 20000 in
set_option maxHeartbeats 4000000 in
theorem InnerR_fn (x : Pt) (d : Int) (M : Mem) (_hx : i64r x.1 ∧ i64r x.2) (_hd : i64r d) : V.Fn Tryz.prog 10 [ptv x, .int .i64 d] M (InnR x d) := by
 refine Fn.of_vcode cxOK Tryz.func10 rfl rfl rfl ?_
 repeat (first | refine VIf.tt ?_ | refine VIf.ff ?_)
 refine VCode.st cxOK ?_
 repeat (first | refine VIf.tt ?_ | refine VIf.ff ?_)
 refine VCode.st cxOK ?_
 repeat (first | refine VIf.tt ?_ | refine VIf.ff ?_)
 refine VFn.p (Place_is (x := x) rfl) ?_
 repeat (first | refine VIf.tt ?_ | refine VIf.ff ?_)
 refine VCode.st cxOK ?_
 repeat (first | refine VIf.tt ?_ | refine VIf.ff ?_)
 refine VIf.mk (fun e1 => ?_) (fun e1 => ?_)
 ·repeat (first | refine VIf.tt ?_ | refine VIf.ff ?_)
  refine VFact.mk ?_ trivial
  unfold InnR
  rw [if_neg (fun h => by rw [bn1 e1] at h; cases h.1)]
 repeat (first | refine VIf.tt ?_ | refine VIf.ff ?_)
 refine VFn.p (in01_fn d 0 100000 M) ?_
 repeat (first | refine VIf.tt ?_ | refine VIf.ff ?_)
 refine VIf.mk (fun e2 => ?_) (fun e2 => ?_)
 ·repeat (first | refine VIf.tt ?_ | refine VIf.ff ?_)
  refine VFact.mk ?_ trivial
  unfold InnR
  rw [if_neg (fun h => by rw [decide_eq_true h.2] at e2; cases e2)]
 have hP : placeB x = true := bn2 e1
 have hd : 0 ≤ d ∧ d ≤ 100000 := of_decide_eq_true (bn2 e2)
 repeat (first | refine VIf.tt ?_ | refine VIf.ff ?_)
 refine VCode.st cxOK ?_
 repeat (first | refine VIf.tt ?_ | refine VIf.ff ?_)
 refine VIf.mk (fun e3 => ?_) (fun e3 => ?_)
 ·repeat (first | refine VIf.tt ?_ | refine VIf.ff ?_)
  refine VFact.mk ?_ trivial
  have e3 : d = 0 := beq_iff_eq.1 e3
  unfold InnR
  rw [if_pos ⟨hP, hd⟩, if_pos e3]
 have e3 : d ≠ 0 := fun h => by rw [h] at e3; simp at e3
 have hm : 0 ≤ d - 1 ∧ d - 1 ≤ 99999 := by omega
 have hk := innK_bd hm.1
 repeat (first | refine VIf.tt ?_ | refine VIf.ff ?_)
 refine VCode.st cxOK ?_
 repeat (first | refine VIf.tt ?_ | refine VIf.ff ?_)
 refine VArith.ok (by first | omega | (simp only; omega)) (by first | omega | (simp only; omega)) ?_
 repeat (first | refine VIf.tt ?_ | refine VIf.ff ?_)
 refine VCode.st cxOK ?_
 repeat (first | refine VIf.tt ?_ | refine VIf.ff ?_)
 refine VArith.ok (by first | omega | (simp only; omega)) (by first | omega | (simp only; omega)) ?_
 repeat (first | refine VIf.tt ?_ | refine VIf.ff ?_)
 refine VDiv.mk (by omega) ?_
 have ek : (707 * (d - 1)).tdiv 1000 = innK (d - 1) := by unfold innK; rw [Int.mul_comm]
 rw [ek]
 obtain ⟨m, hmd⟩ : ∃ m, m = d - 1 := ⟨_, rfl⟩
 obtain ⟨k, hkd⟩ : ∃ k, k = innK m := ⟨_, rfl⟩
 rw [← hmd] at hm hk ⊢
 rw [← hkd] at hk ⊢
 repeat (first | refine VIf.tt ?_ | refine VIf.ff ?_)
 refine VArith.ok (by first | omega | (simp only; omega)) (by first | omega | (simp only; omega)) ?_
 repeat (first | refine VIf.tt ?_ | refine VIf.ff ?_)
 refine VCode.st cxOK ?_
 repeat (first | refine VIf.tt ?_ | refine VIf.ff ?_)
 refine VArith.ok (by first | omega | (simp only; omega)) (by first | omega | (simp only; omega)) ?_
 repeat (first | refine VIf.tt ?_ | refine VIf.ff ?_)
 refine VArith.ok (by first | omega | (simp only; omega)) (by first | omega | (simp only; omega)) ?_
 repeat (first | refine VIf.tt ?_ | refine VIf.ff ?_)
 refine VArith.ok (by first | omega | (simp only; omega)) (by first | omega | (simp only; omega)) ?_
 repeat (first | refine VIf.tt ?_ | refine VIf.ff ?_)
 refine VArith.ok (by first | omega | (simp only; omega)) (by first | omega | (simp only; omega)) ?_
 repeat (first | refine VIf.tt ?_ | refine VIf.ff ?_)
 refine VArith.ok (by first | omega | (simp only; omega)) (by first | omega | (simp only; omega)) ?_
 repeat (first | refine VIf.tt ?_ | refine VIf.ff ?_)
 refine VArith.ok (by first | omega | (simp only; omega)) (by first | omega | (simp only; omega)) ?_
 repeat (first | refine VIf.tt ?_ | refine VIf.ff ?_)
 refine VCode.frz [10] ?_
 repeat (first | refine VIf.tt ?_ | refine VIf.ff ?_)
 refine VFz.mk fun v1 B1 M1 hM1 hv1 => ?_
 have hv1 : Pts M1 v1 [(m, 0), (0, m), (-m, 0), (0, -m), (k, k), (-k, k), (-k, -k), (k, -k)] := hv1
 obtain ⟨va, vc, rfl⟩ := hv1.shape
 have hpl : ∀ y ∈ [(m, 0), (0, m), (-m, 0), (0, -m), (k, k), (-k, k), (-k, -k), (k, -k)], placeB y = true := fun y hy => by
  simp only [List.mem_cons, List.not_mem_nil, or_false] at hy
  rcases hy with rfl | rfl | rfl | rfl | rfl | rfl | rfl | rfl <;> exact place_box.2 (by simp only; omega)
 have hhl : Hl [(m, 0), (0, m), (-m, 0), (0, -m), (k, k), (-k, k), (-k, -k), (k, -k)] (innA m) := by rw [hkd]; exact refl_hl
 repeat (first | refine VIf.tt ?_ | refine VIf.ff ?_)
 refine VCode.st cxOK ?_
 repeat (first | refine VIf.tt ?_ | refine VIf.ff ?_)
 refine VDraw.go (by kernel_rfl) ?_
 repeat (first | refine VIf.tt ?_ | refine VIf.ff ?_)
 refine VFn.mk _ (Around_fn _ _ (innA m) M1 hv1 hhl (fun y hy => by have := place_box.1 (hpl y hy); unfold isC; omega) (by simp)) ?_
 rintro rs M2 hM2 ⟨u, rfl, hu⟩
 obtain ⟨ua, uc, rfl⟩ := hu.shape
 repeat (first | refine VIf.tt ?_ | refine VIf.ff ?_)
 refine VFn.mk _ (Shift06_fn _ (innA m) x M2 hu (innA_valid hm) hP) ?_
 intro rs M3 hM3 hrs
 have ei : innP x d = moveP x (innA m) := by unfold innP; rw [hmd]
 have eo : innOK x d = (moveP x (innA m)).all placeB := by unfold innOK; rw [ei]
 have fin : ∀ rs M', (if (moveP x (innA m)).all placeB = true then ∃ u, rs = [u, .bool true, .int .i64 0] ∧ Pts M' u (moveP x (innA m)) else rs = [.slice none 0 0, .bool false, .int .i64 3]) → InnR x d rs M' := fun rs M' h => by
  unfold InnR
  rw [if_pos ⟨hP, hd⟩, if_neg e3, eo, ei]
  exact h
 by_cases hok : (moveP x (innA m)).all placeB = true
 ·rw [if_pos hok] at hrs
  obtain ⟨w, rfl, hw⟩ := hrs
  obtain ⟨wa, wc, rfl⟩ := hw.shape
  repeat (first | refine VIf.tt ?_ | refine VIf.ff ?_)
  refine VCode.of_vc cxOK ?_
  repeat refine VIf.mk (fun q => absurd q (by decide)) (fun _ => ?_)
  repeat (first | refine VIf.tt ?_ | refine VIf.ff ?_)
  exact VFact.mk (fin _ _ (by rw [if_pos hok]; exact ⟨_, rfl, hw⟩)) trivial
 ·rw [if_neg hok] at hrs
  subst hrs
  repeat (first | refine VIf.tt ?_ | refine VIf.ff ?_)
  refine VCode.of_vc cxOK ?_
  repeat refine VIf.mk (fun _ => ?_) (fun q => absurd q (by decide))
  repeat (first | refine VIf.tt ?_ | refine VIf.ff ?_)
  exact VFact.mk (fin _ _ (by rw [if_neg hok])) trivial
theorem sgn_key (m k : Int) {i : Nat} (h : i < 8) : ((gp sgnP i).1 ≠ 0 ∧ (gp sgnP i).2 ≠ 0 → gp (innL m k) i = (k * (gp sgnP i).1, k * (gp sgnP i).2)) ∧ (¬ ((gp sgnP i).1 ≠ 0 ∧ (gp sgnP i).2 ≠ 0) → gp (innL m k) i = (m * (gp sgnP i).1, m * (gp sgnP i).2)) ∧ (-1 ≤ (gp sgnP i).1 ∧ (gp sgnP i).1 ≤ 1) ∧ -1 ≤ (gp sgnP i).2 ∧ (gp sgnP i).2 ≤ 1 := by
 have : i = 0 ∨ i = 1 ∨ i = 2 ∨ i = 3 ∨ i = 4 ∨ i = 5 ∨ i = 6 ∨ i = 7 := by omega
 rcases this with rfl | rfl | rfl | rfl | rfl | rfl | rfl | rfl <;> simp [sgnP, innL, gp]
set_option maxRecDepth 20000 in
set_option maxHeartbeats 4000000 in
theorem InnerE_fn (x : Pt) (d : Int) (t : TypeId) (M : Mem) (hS : M 0 = some (.cells sgnC t (0, 0))) (hx : i64r x.1 ∧ i64r x.2) (_hd : i64r d) : V.Fn Tryz.prog 9 [ptv x, .int .i64 d] M (InnR x d) := by
 refine Fn.of_vcode cxOK Tryz.func9 rfl rfl rfl ?_
 repeat (first | refine VIf.tt ?_ | refine VIf.ff ?_)
 refine VCode.st cxOK ?_
 repeat (first | refine VIf.tt ?_ | refine VIf.ff ?_)
 refine VCode.st cxOK ?_
 repeat (first | refine VIf.tt ?_ | refine VIf.ff ?_)
 refine VFz.mk fun v1 B1 M1 hM1 hv1 => ?_
 have hv1 : Pts M1 v1 [(0, 0)] := hv1
 obtain ⟨va, vc, rfl⟩ := hv1.shape
 have hV0 : validB [(0, 0)] = true := by decide +kernel
 have hmv : moveP x [(0, 0)] = [x] := by unfold moveP; simp
 repeat (first | refine VIf.tt ?_ | refine VIf.ff ?_)
 refine VFn.mk _ (ShiftX_fn _ [(0, 0)] x M1 hv1 (mem_64 (valid_mem hV0)) hx.1 hx.2) ?_
 intro rs M2 hM2 hrs
 have m2 := hM1.trans hM2
 by_cases hP : placeB x = true
 rotate_left
 ·rw [if_neg (fun h => hP h.2)] at hrs
  subst hrs
  repeat (first | refine VIf.tt ?_ | refine VIf.ff ?_)
  refine VCode.st cxOK ?_
  repeat (first | refine VIf.tt ?_ | refine VIf.ff ?_)
  refine VFact.mk ?_ trivial
  unfold InnR
  rw [if_neg (fun h => hP h.1)]
 rw [if_pos ⟨hV0, hP⟩, hmv, if_pos (one_valid1 hP)] at hrs
 obtain ⟨u, rfl, hu⟩ := hrs
 obtain ⟨ua, uc, rfl⟩ := hu.shape
 repeat (first | refine VIf.tt ?_ | refine VIf.ff ?_)
 refine VCode.st cxOK ?_
 repeat (first | refine VIf.tt ?_ | refine VIf.ff ?_)
 refine VIf.mk (fun e1 => ?_) (fun e1 => ?_)
 ·repeat (first | refine VIf.tt ?_ | refine VIf.ff ?_)
  refine VFact.mk ?_ trivial
  have e1 := of_decide_eq_true e1
  unfold InnR
  rw [if_neg (fun h => by omega)]
 have e1 := of_decide_eq_false e1
 repeat (first | refine VIf.tt ?_ | refine VIf.ff ?_)
 refine VIf.mk (fun e2 => ?_) (fun e2 => ?_)
 ·repeat (first | refine VIf.tt ?_ | refine VIf.ff ?_)
  refine VFact.mk ?_ trivial
  have e2 := of_decide_eq_true e2
  unfold InnR
  rw [if_neg (fun h => by omega)]
 have e2 := of_decide_eq_false e2
 have hd : 0 ≤ d ∧ d ≤ 100000 := by omega
 repeat (first | refine VIf.tt ?_ | refine VIf.ff ?_)
 refine VCode.st cxOK ?_
 repeat (first | refine VIf.tt ?_ | refine VIf.ff ?_)
 refine VIf.mk (fun e3 => ?_) (fun e3 => ?_)
 ·repeat (first | refine VIf.tt ?_ | refine VIf.ff ?_)
  refine VFact.mk ?_ trivial
  have e3 : d = 0 := beq_iff_eq.1 e3
  unfold InnR
  rw [if_pos ⟨hP, hd⟩, if_pos e3]
 have e3 : d ≠ 0 := fun h => by rw [h] at e3; simp at e3
 have hm : 0 ≤ d - 1 ∧ d - 1 ≤ 99999 := by omega
 have hk := innK_bd hm.1
 repeat (first | refine VIf.tt ?_ | refine VIf.ff ?_)
 refine VCode.st cxOK ?_
 repeat (first | refine VIf.tt ?_ | refine VIf.ff ?_)
 refine VArith.ok (by first | omega | (simp only; omega)) (by first | omega | (simp only; omega)) ?_
 repeat (first | refine VIf.tt ?_ | refine VIf.ff ?_)
 refine VCode.st cxOK ?_
 repeat (first | refine VIf.tt ?_ | refine VIf.ff ?_)
 refine VArith.ok (by first | omega | (simp only; omega)) (by first | omega | (simp only; omega)) ?_
 repeat (first | refine VIf.tt ?_ | refine VIf.ff ?_)
 refine VDiv.mk (by omega) ?_
 have ek : ((d - 1) * 707).tdiv 1000 = innK (d - 1) := rfl
 rw [ek]
 obtain ⟨m, hmd⟩ : ∃ m, m = d - 1 := ⟨_, rfl⟩
 rw [← hmd] at hm hk ⊢
 obtain ⟨k, hkd⟩ : ∃ k, k = innK m := ⟨_, rfl⟩
 rw [← hkd] at hk ⊢
 repeat (first | refine VIf.tt ?_ | refine VIf.ff ?_)
 refine VArith.ok (by first | omega | (simp only; omega)) (by first | omega | (simp only; omega)) ?_
 have hS2 := hM2 _ _ (hM1 _ _ hS)
 repeat (first | refine VIf.tt ?_ | refine VIf.ff ?_)
 refine VCode.st cxOK ?_
 repeat (first | refine VIf.tt ?_ | refine VIf.ff ?_)
 refine VCode.seq ?_
 repeat (first | refine VIf.tt ?_ | refine VIf.ff ?_)
 refine VCode.st cxOK ?_
 repeat (first | refine VIf.tt ?_ | refine VIf.ff ?_)
 refine VReads.mk sgnC.toList rfl (rdAt hS2) ?_
 repeat (first | refine VIf.tt ?_ | refine VIf.ff ?_)
 refine VCode.block ?_
 repeat (first | refine VIf.tt ?_ | refine VIf.ff ?_)
 refine VCode.loopC Nat (fun i => ⟨[(2, .box 0 0), (9, .v (.int .i64 m)), (10, .v (.int .i64 k)), (11, .row 1), (42, .v (.agg sgnC)), (43, .v (.int .i64 i))], [(0, some (.box 24 [.v (.int .i64 x.1), .v (.int .i64 x.2)])), (1, some (.row 24 2 ((innL m k).take i).length (cellsP ((innL m k).take i))))], 2, M2, 84, ⟨fun _ => none, none, fun _ => none⟩⟩)
  (fun i => i ≤ 8) (fun i => 8 - i) 0 (Nat.zero_le _) (Wk.nil 11 24 2 rfl (Wk.mk' (fun i => if i = 1 then 2 else i) (by repeat' constructor) (by repeat' constructor) (by simp [injOK]) rfl rfl rfl)) ?_
 rintro i hi m'
 have hil : ((innL m k).take i).length = i := by rw [List.length_take]; simp [innL]; omega
 repeat (first | refine VIf.tt ?_ | refine VIf.ff ?_)
 refine VCode.st cxOK ?_
 repeat (first | refine VIf.tt ?_ | refine VIf.ff ?_)
 refine VCode.st cxOK ?_
 repeat (first | refine VIf.tt ?_ | refine VIf.ff ?_)
 refine VIf.mk (fun hlt => ?_) (fun hge => ?_)
 ·have hlt : i < 8 := by have := of_decide_eq_true hlt; omega
  have hst := innL_take m k hlt
  repeat (first | refine VIf.tt ?_ | refine VIf.ff ?_)
  refine VCode.seq (VCode.block ?_)
  repeat (first | refine VIf.tt ?_ | refine VIf.ff ?_)
  refine VCode.st cxOK ?_
  repeat (first | refine VIf.tt ?_ | refine VIf.ff ?_)
  refine VIdxR.mk i rfl hlt ?_
  repeat (first | refine VIf.tt ?_ | refine VIf.ff ?_)
  refine VCells.mk [.int .i64 (gp sgnP i).1, .int .i64 (gp sgnP i).2] rfl (by rw [sgn_cells]; exact rowP_get sgnP hlt) ?_
  obtain ⟨q1, q2, q3⟩ := sgn_key m k hlt
  obtain ⟨s, hs⟩ : ∃ s, s = gp sgnP i := ⟨_, rfl⟩
  rw [← hs] at q1 q2 q3 ⊢
  have bd : ∀ n z : Int, 0 ≤ n → n ≤ 99999 → -1 ≤ z → z ≤ 1 → -99999 ≤ n * z ∧ n * z ≤ 99999 := fun n z h1 h2 h3 h4 => by
   have : z = -1 ∨ z = 0 ∨ z = 1 := by omega
   rcases this with rfl | rfl | rfl <;> omega
  have c1 := bd m s.1 (by omega) (by omega) (by omega) (by omega)
  have c2 := bd m s.2 (by omega) (by omega) (by omega) (by omega)
  have c3 := bd k s.1 (by omega) (by omega) (by omega) (by omega)
  have c4 := bd k s.2 (by omega) (by omega) (by omega) (by omega)
  repeat (first | refine VIf.tt ?_ | refine VIf.ff ?_)
  refine VCode.st cxOK ?_
  repeat (first | refine VIf.tt ?_ | refine VIf.ff ?_)
  refine VCode.st cxOK ?_
  repeat (first | refine VIf.tt ?_ | refine VIf.ff ?_)
  refine VIf.mk (fun g1 => ?_) (fun g1 => ?_)
  ·repeat (first | refine VIf.tt ?_ | refine VIf.ff ?_)
   refine VIf.mk (fun g2 => ?_) (fun g2 => ?_)
   ·have q := q1 ⟨by simpa using g1, by simpa using g2⟩
    repeat (first | refine VIf.tt ?_ | refine VIf.ff ?_)
    refine VCode.of_vc cxOK ?_
    repeat (first | refine VIf.tt ?_ | refine VIf.ff ?_)
    refine VArith.ok (by first | omega | (simp only; omega)) (by first | omega | (simp only; omega)) ?_
    repeat (first | refine VIf.tt ?_ | refine VIf.ff ?_)
    refine VArith.ok (by first | omega | (simp only; omega)) (by first | omega | (simp only; omega)) ?_
    repeat (first | refine VIf.tt ?_ | refine VIf.ff ?_)
    refine VFact.mk (by rw [hil]; show (i + 1) * 16 ≤ 140737488355328; omega) ?_
    repeat (first | refine VIf.tt ?_ | refine VIf.ff ?_)
    refine VCode.of_vc cxOK ?_
    repeat (first | refine VIf.tt ?_ | refine VIf.ff ?_)
    refine VArith.ok (by first | omega | (simp only; omega)) (by first | omega | (simp only; omega)) ?_
    refine ⟨i + 1, hlt, (by first | omega | (simp only; omega)), Wk.mk' (fun i => if i = 1 then 4 else i) (by repeat' constructor) ?_ (injOK_b rfl) rfl rfl rfl⟩
    repeat' constructor
    ·rw [hst, List.length_append]; rfl
    ·rw [hst, cells_app1, q]
   ·have q := q2 (fun h => h.2 (by simpa using g2))
    repeat (first | refine VIf.tt ?_ | refine VIf.ff ?_)
    refine VCode.of_vc cxOK ?_
    repeat (first | refine VIf.tt ?_ | refine VIf.ff ?_)
    refine VArith.ok (by first | omega | (simp only; omega)) (by first | omega | (simp only; omega)) ?_
    repeat (first | refine VIf.tt ?_ | refine VIf.ff ?_)
    refine VArith.ok (by first | omega | (simp only; omega)) (by first | omega | (simp only; omega)) ?_
    repeat (first | refine VIf.tt ?_ | refine VIf.ff ?_)
    refine VFact.mk (by rw [hil]; show (i + 1) * 16 ≤ 140737488355328; omega) ?_
    repeat (first | refine VIf.tt ?_ | refine VIf.ff ?_)
    refine VCode.of_vc cxOK ?_
    repeat (first | refine VIf.tt ?_ | refine VIf.ff ?_)
    refine VArith.ok (by first | omega | (simp only; omega)) (by first | omega | (simp only; omega)) ?_
    refine ⟨i + 1, hlt, (by first | omega | (simp only; omega)), Wk.mk' (fun i => if i = 1 then 4 else i) (by repeat' constructor) ?_ (injOK_b rfl) rfl rfl rfl⟩
    repeat' constructor
    ·rw [hst, List.length_append]; rfl
    ·rw [hst, cells_app1, q]
  ·have q := q2 (fun h => h.1 (by simpa using g1))
   repeat (first | refine VIf.tt ?_ | refine VIf.ff ?_)
   refine VCode.of_vc cxOK ?_
   repeat (first | refine VIf.tt ?_ | refine VIf.ff ?_)
   refine VArith.ok (by first | omega | (simp only; omega)) (by first | omega | (simp only; omega)) ?_
   repeat (first | refine VIf.tt ?_ | refine VIf.ff ?_)
   refine VArith.ok (by first | omega | (simp only; omega)) (by first | omega | (simp only; omega)) ?_
   repeat (first | refine VIf.tt ?_ | refine VIf.ff ?_)
   refine VFact.mk (by rw [hil]; show (i + 1) * 16 ≤ 140737488355328; omega) ?_
   repeat (first | refine VIf.tt ?_ | refine VIf.ff ?_)
   refine VCode.of_vc cxOK ?_
   repeat (first | refine VIf.tt ?_ | refine VIf.ff ?_)
   refine VArith.ok (by first | omega | (simp only; omega)) (by first | omega | (simp only; omega)) ?_
   refine ⟨i + 1, hlt, (by first | omega | (simp only; omega)), Wk.mk' (fun i => if i = 1 then 4 else i) (by repeat' constructor) ?_ (injOK_b rfl) rfl rfl rfl⟩
   repeat' constructor
   ·rw [hst, List.length_append]; rfl
   ·rw [hst, cells_app1, q]
 ·have : i = 8 := by have := of_decide_eq_false hge; omega
  subst this
  have e8 : (innL m k).take 8 = innL m k := rfl
  rw [e8]
  repeat (first | refine VIf.tt ?_ | refine VIf.ff ?_)
  refine VCode.frz [11] ?_
  repeat (first | refine VIf.tt ?_ | refine VIf.ff ?_)
  refine VFz.mk fun v3 B3 M3 hM3 hv3 => ?_
  have hv3 : Pts M3 v3 (innL m k) := hv3
  obtain ⟨wa, wc, rfl⟩ := hv3.shape
  have h64 : i64P (innL m k) := mem_64 (by rw [hkd]; exact innL_place hm)
  repeat (first | refine VIf.tt ?_ | refine VIf.ff ?_)
  refine VCode.st cxOK ?_
  have hh : hullB (innL m k) = (innA m, 0) := by rw [hkd]; exact hull_inn hm
  repeat (first | refine VIf.tt ?_ | refine VIf.ff ?_)
  refine VFn.mk _ (Hull_is hv3 h64 hh) ?_
  rintro rs M4 hM4 ⟨u4, rfl, hu4⟩
  obtain ⟨ya, yc, rfl⟩ := hu4.shape
  have hVA := innA_valid hm
  repeat (first | refine VIf.tt ?_ | refine VIf.ff ?_)
  refine VCode.st cxOK ?_
  repeat (first | refine VIf.tt ?_ | refine VIf.ff ?_)
  refine VFn.mk _ (ShiftX_fn _ (innA m) x M4 hu4 (mem_64 (valid_mem hVA)) hx.1 hx.2) ?_
  intro rs M5 hM5 hrs
  rw [if_pos ⟨hVA, hP⟩] at hrs
  have ei : innP x d = moveP x (innA m) := by unfold innP; rw [hmd]
  have fin1 : ∀ u M', innOK x d = true → Pts M' u (moveP x (innA m)) → InnR x d [u, .bool true, .int .i64 0] M' := fun u M' h1 h2 => by
   unfold InnR
   rw [if_pos ⟨hP, hd⟩, if_neg e3, if_pos h1, ei]
   exact ⟨u, rfl, h2⟩
  have fin2 : ∀ M', innOK x d = false → InnR x d [.slice none 0 0, .bool false, .int .i64 3] M' := fun M' h1 => by
   unfold InnR
   rw [if_pos ⟨hP, hd⟩, if_neg e3, if_neg (by rw [h1]; decide)]
  by_cases hok : validB (moveP x (innA m)) = true
  ·rw [if_pos hok] at hrs
   obtain ⟨w, rfl, hw⟩ := hrs
   obtain ⟨za, zc, rfl⟩ := hw.shape
   have ho : innOK x d = true := by
    unfold innOK
    rw [ei]
    exact List.all_eq_true.2 fun y hy => valid_mem hok y hy
   repeat (first | refine VIf.tt ?_ | refine VIf.ff ?_)
   refine VCode.of_vc cxOK ?_
   repeat refine VIf.mk (fun q => absurd q (by decide)) (fun _ => ?_)
   repeat (first | refine VIf.tt ?_ | refine VIf.ff ?_)
   exact VFact.mk (fin1 _ _ ho hw) trivial
  ·rw [if_neg hok] at hrs
   subst hrs
   have ho : innOK x d = false := by
    cases h : innOK x d with
    | false => rfl
    | true => exact absurd (by rw [← ei]; exact innP_valid (by omega) h) hok
   repeat (first | refine VIf.tt ?_ | refine VIf.ff ?_)
   refine VCode.of_vc cxOK ?_
   repeat refine VIf.mk (fun _ => ?_) (fun q => absurd q (by decide))
   repeat (first | refine VIf.tt ?_ | refine VIf.ff ?_)
   exact VFact.mk (fin2 _ ho) trivial
end Go.Proofs.YtdfhnemhkpplbaaGreatDoor
namespace Go.Proofs.YtdfhnemhkpplbaaGreatDoor
open Go Go.V Go.RowKit
def keepR (p : List Pt) (A B C : Int) (i : Nat) : List Pt := (if ovr A B C (gp p i) ≤ 0 then [gp p i] else []) ++ (if crossesB (ovr A B C (gp p i)) (ovr A B C (nx p i)) = true then frameR (gp p i) (nx p i) (ovr A B C (gp p i)) (ovr A B C (nx p i)) else [])
def leftR (p : List Pt) (A B C : Int) (k : Nat) : List Pt := (List.range k).flatMap (keepR p A B C)
theorem leftR_step (p : List Pt) (A B C : Int) (k : Nat) : leftR p A B C (k + 1) = leftR p A B C k ++ keepR p A B C k := by unfold leftR; rw [List.range_succ, List.flatMap_append]; simp
theorem keepR_len (p : List Pt) (A B C : Int) (i : Nat) : (keepR p A B C i).length = (keepL p A B C i).length := by
 unfold keepR keepL
 rw [List.length_append, List.length_append]
 congr 1
 split <;> rfl
theorem mem_keepR {p : List Pt} {A B C : Int} {i : Nat} {y : Pt} : y ∈ keepR p A B C i ↔ y ∈ keepL p A B C i := by
 unfold keepR keepL
 rw [List.mem_append, List.mem_append]
 split <;> simp [mem_frameR]
theorem leftR_len (p : List Pt) (A B C : Int) : ∀ k, (leftR p A B C k).length = (cutL p A B C k).length
 | 0 => rfl
 | k + 1 => by rw [leftR_step, cutL_step, List.length_append, List.length_append, leftR_len p A B C k, keepR_len]
theorem mem_leftR {p : List Pt} {A B C : Int} {k : Nat} {y : Pt} : y ∈ leftR p A B C k ↔ y ∈ cutL p A B C k := by
 unfold leftR cutL
 simp only [List.mem_flatMap, mem_keepR]
theorem ovrR_bd {A B C : Int} {x : Pt} (h : halfB A B C = true) (hx : placeB x = true) : -2000000000000 ≤ ovr A B C x ∧ ovr A B C x ≤ 2000000000000 := by
 have hp := place_C hx
 unfold isC at hp
 simp only [halfB, Bool.and_eq_true, decide_eq_true_eq] at h
 have e1 := mul_bd (a := A) (b := x.1) 1000000 500000 (by omega) (by omega) (by omega) (by omega) (by omega) (by omega)
 have e2 := mul_bd (a := B) (b := x.2) 1000000 500000 (by omega) (by omega) (by omega) (by omega) (by omega) (by omega)
 unfold ovr
 omega
set_option maxRecDepth 20000 in
set_option maxHeartbeats 4000000 in
theorem Left04_fn (v : Value) (ps : List Pt) (A B C : Int) (M : Mem) (hv : Pts M v ps) (hP : ∀ x ∈ ps, placeB x = true) (hl : ps.length ≤ 64) (hH : halfB A B C = true) :
  V.Fn Tryz.prog 111 [v, .agg #[.int .i64 A, .int .i64 B, .int .i64 C]] M fun rs M' => ∃ u, rs = [u] ∧ Pts M' u (leftR ps A B C ps.length) := by
 obtain ⟨ad, c, rfl⟩ := hv.shape
 obtain ⟨_, hm, hrd⟩ := hv.cellsOf
 refine Fn.of_vc cxOK Tryz.func111 rfl rfl rfl ?_
 repeat (first | refine VIf.tt ?_ | refine VIf.ff ?_)
 refine VCode.loopC (Nat × Mem) (fun (⟨i, M1⟩ : Nat × Mem) => ⟨[(0, .v (.slice ad ps.length c)), (3, .box 0 0), (5, .row 1), (6, .v (.int .i64 i))], [(0, some (.box 83 [.v (.int .i64 A), .v (.int .i64 B), .v (.int .i64 C)])), (1, some (.row 24 2 (leftR ps A B C i).length (cellsP (leftR ps A B C i))))], 2, M1, 54, ⟨fun _ => none, none, fun _ => none⟩⟩)
  (fun (⟨i, M1⟩ : Nat × Mem) => M.le M1 ∧ i ≤ ps.length) (fun (⟨i, _⟩ : Nat × Mem) => ps.length - i) (0, M) ⟨Mem.le_refl _, Nat.zero_le _⟩ (Wk.nil 5 24 2 rfl (Wk.mk' id (by repeat' constructor) (by repeat' constructor) (injOK_id _) rfl rfl rfl)) ?_
 rintro ⟨i, M1⟩ ⟨hM1, hi⟩ m
 have hll : (leftR ps A B C i).length ≤ 5 * i := by rw [leftR_len]; exact cutL_len ps A B C i
 repeat (first | refine VIf.tt ?_ | refine VIf.ff ?_)
 refine VCode.st cxOK ?_
 repeat (first | refine VIf.tt ?_ | refine VIf.ff ?_)
 refine VIf.mk (fun hlt => ?_) (fun hge => ?_)
 rotate_left
 ·have : i = ps.length := by have := ge_of_dec hge; omega
  subst this
  repeat (first | refine VIf.tt ?_ | refine VIf.ff ?_)
  refine VFz.mk fun x Bx M2 hM2 hx => ?_
  repeat (first | refine VIf.tt ?_ | refine VIf.ff ?_)
  exact VFact.mk ⟨x, rfl, hx⟩ trivial
 repeat (first | refine VIf.tt ?_ | refine VIf.ff ?_)
 refine VCode.seq (VCode.block ?_)
 have hlt : i < ps.length := lt_of_dec hlt
 have hmod : (i + 1) % ps.length < ps.length := Nat.mod_lt _ (by omega)
 obtain ⟨a1, e1, r1⟩ := hrd M1 hM1 i hlt
 obtain ⟨a2, e2, r2⟩ := hrd M1 hM1 ((i + 1) % ps.length) hmod
 have pa := hP _ (gp_mem hlt)
 have pb : placeB (nx ps i) = true := hP _ (gp_mem hmod)
 have ba := ovrR_bd hH pa
 have bb := ovrR_bd hH pb
 repeat (first | refine VIf.tt ?_ | refine VIf.ff ?_)
 refine VCode.st cxOK ?_
 repeat (first | refine VIf.tt ?_ | refine VIf.ff ?_)
 refine VIdx.mk a1 i e1 rfl hlt ?_
 repeat (first | refine VIf.tt ?_ | refine VIf.ff ?_)
 refine VReads.mk [.int .i64 (gp ps i).1, .int .i64 (gp ps i).2] rfl r1 ?_
 repeat (first | refine VIf.tt ?_ | refine VIf.ff ?_)
 refine VCode.st cxOK ?_
 repeat (first | refine VIf.tt ?_ | refine VIf.ff ?_)
 refine VArith.ok (by first | omega | (simp only; omega)) (by first | omega | (simp only; omega)) ?_
 repeat (first | refine VIf.tt ?_ | refine VIf.ff ?_)
 refine VDiv.mk (by omega) ?_
 repeat (first | refine VIf.tt ?_ | refine VIf.ff ?_)
 refine VIdx.mk a2 ((i + 1) % ps.length) e2 (by rw [Int.tmod_eq_emod_of_nonneg (by omega)]; simp) hmod ?_
 repeat (first | refine VIf.tt ?_ | refine VIf.ff ?_)
 refine VReads.mk [.int .i64 (nx ps i).1, .int .i64 (nx ps i).2] rfl r2 ?_
 repeat (first | refine VIf.tt ?_ | refine VIf.ff ?_)
 refine VCode.st cxOK ?_
 repeat (first | refine VIf.tt ?_ | refine VIf.ff ?_)
 refine VFn.p (Over04_fn A B C (gp ps i) M1 hH pa) ?_
 repeat (first | refine VIf.tt ?_ | refine VIf.ff ?_)
 refine VCode.st cxOK ?_
 repeat (first | refine VIf.tt ?_ | refine VIf.ff ?_)
 refine VFn.p (Over04_fn A B C (nx ps i) M1 hH pb) ?_
 have hst := leftR_step ps A B C i
 repeat (first | refine VIf.tt ?_ | refine VIf.ff ?_)
 refine VCode.st cxOK ?_
 repeat (first | refine VIf.tt ?_ | refine VIf.ff ?_)
 refine VIf.mk (fun hs => ?_) (fun hs => ?_)
 ·have hs := of_decide_eq_true hs
  have hb : ((leftR ps A B C i).length + 1) * 16 ≤ 140737488355328 := by omega
  repeat (first | refine VIf.tt ?_ | refine VIf.ff ?_)
  refine VFact.mk hb ?_
  repeat (first | refine VIf.tt ?_ | refine VIf.ff ?_)
  refine VCode.st cxOK ?_
  repeat (first | refine VIf.tt ?_ | refine VIf.ff ?_)
  refine VFn.p (differ04_fn _ _ M1) ?_
  repeat (first | refine VIf.tt ?_ | refine VIf.ff ?_)
  refine VCode.of_vc cxOK ?_
  repeat (first | refine VIf.tt ?_ | refine VIf.ff ?_)
  refine VIf.mk (fun hc => ?_) (fun hc => ?_)
  ·have hk : keepR ps A B C i = [gp ps i] ++ frameR (gp ps i) (nx ps i) (ovr A B C (gp ps i)) (ovr A B C (nx ps i)) := by unfold keepR; rw [if_pos hs, if_pos hc]
   repeat (first | refine VIf.tt ?_ | refine VIf.ff ?_)
   refine VFn.mk _ (frame04_fn (gp ps i) (nx ps i) _ _ M1 pa pb ba bb hc) ?_
   rintro rs M2 hM2 ⟨u, rfl, hu⟩
   repeat (first | refine VIf.tt ?_ | refine VIf.ff ?_)
   refine VSl.mk _ _ hu ?_
   have hb : ((leftR ps A B C i).length + 1 + (frameR (gp ps i) (nx ps i) (ovr A B C (gp ps i)) (ovr A B C (nx ps i))).length) * 16 ≤ 140737488355328 := by show (_ + 1 + 4) * 16 ≤ _; omega
   repeat (first | refine VIf.tt ?_ | refine VIf.ff ?_)
   refine VFact.mk hb ?_
   repeat (first | refine VIf.tt ?_ | refine VIf.ff ?_)
   refine VCode.of_vc cxOK ?_
   repeat (first | refine VIf.tt ?_ | refine VIf.ff ?_)
   refine VArith.ok (by first | omega | (simp only; omega)) (by first | omega | (simp only; omega)) ?_
   refine ⟨(i + 1, M2), ⟨hM1.trans hM2, hlt⟩, (by first | omega | (simp only; omega)), Wk.mk' (fun k => if k = 1 then 6 else k) (by repeat' constructor) ⟨⟨rfl, by repeat' constructor⟩, ⟨rfl, ⟨rfl, rfl, ?_, ?_⟩⟩, trivial⟩ (by simp [injOK]) rfl rfl rfl⟩
   ·rw [hst, hk]
    try simp only [List.length_append]
    try rfl
   ·rw [hst, hk]
    try simp only [cellsP_app, List.append_assoc]
    try rfl
  ·have hk : keepR ps A B C i = [gp ps i] := by unfold keepR; rw [if_pos hs, if_neg (by rw [hc]; decide)]; rfl
   repeat (first | refine VIf.tt ?_ | refine VIf.ff ?_)
   refine VCode.of_vc cxOK ?_
   repeat (first | refine VIf.tt ?_ | refine VIf.ff ?_)
   refine VArith.ok (by first | omega | (simp only; omega)) (by first | omega | (simp only; omega)) ?_
   refine ⟨(i + 1, M1), ⟨hM1, hlt⟩, (by first | omega | (simp only; omega)), Wk.mk' (fun k => if k = 1 then 5 else k) (by repeat' constructor) ⟨⟨rfl, by repeat' constructor⟩, ⟨rfl, ⟨rfl, rfl, ?_, ?_⟩⟩, trivial⟩ (by simp [injOK]) rfl rfl rfl⟩
   ·rw [hst, hk]
    try simp only [List.length_append]
    try rfl
   ·rw [hst, hk]
    try simp only [cellsP_app, List.append_assoc]
    try rfl
 ·have hs := of_decide_eq_false hs
  repeat (first | refine VIf.tt ?_ | refine VIf.ff ?_)
  refine VCode.st cxOK ?_
  repeat (first | refine VIf.tt ?_ | refine VIf.ff ?_)
  refine VFn.p (differ04_fn _ _ M1) ?_
  repeat (first | refine VIf.tt ?_ | refine VIf.ff ?_)
  refine VCode.of_vc cxOK ?_
  repeat (first | refine VIf.tt ?_ | refine VIf.ff ?_)
  refine VIf.mk (fun hc => ?_) (fun hc => ?_)
  ·have hk : keepR ps A B C i = frameR (gp ps i) (nx ps i) (ovr A B C (gp ps i)) (ovr A B C (nx ps i)) := by unfold keepR; rw [if_neg hs, if_pos hc]; rfl
   repeat (first | refine VIf.tt ?_ | refine VIf.ff ?_)
   refine VFn.mk _ (frame04_fn (gp ps i) (nx ps i) _ _ M1 pa pb ba bb hc) ?_
   rintro rs M2 hM2 ⟨u, rfl, hu⟩
   repeat (first | refine VIf.tt ?_ | refine VIf.ff ?_)
   refine VSl.mk _ _ hu ?_
   have hb : ((leftR ps A B C i).length + (frameR (gp ps i) (nx ps i) (ovr A B C (gp ps i)) (ovr A B C (nx ps i))).length) * 16 ≤ 140737488355328 := by show (_ + 4) * 16 ≤ _; omega
   repeat (first | refine VIf.tt ?_ | refine VIf.ff ?_)
   refine VFact.mk hb ?_
   repeat (first | refine VIf.tt ?_ | refine VIf.ff ?_)
   refine VCode.of_vc cxOK ?_
   repeat (first | refine VIf.tt ?_ | refine VIf.ff ?_)
   refine VArith.ok (by first | omega | (simp only; omega)) (by first | omega | (simp only; omega)) ?_
   refine ⟨(i + 1, M2), ⟨hM1.trans hM2, hlt⟩, (by first | omega | (simp only; omega)), Wk.mk' (fun k => if k = 1 then 4 else k) (by repeat' constructor) ⟨⟨rfl, by repeat' constructor⟩, ⟨rfl, ⟨rfl, rfl, ?_, ?_⟩⟩, trivial⟩ (by simp [injOK]) rfl rfl rfl⟩
   ·rw [hst, hk]
    try simp only [List.length_append]
    try rfl
   ·rw [hst, hk]
    try simp only [cellsP_app, List.append_assoc]
    try rfl
  ·have hk : keepR ps A B C i = [] := by unfold keepR; rw [if_neg hs, if_neg (by rw [hc]; decide)]; rfl
   repeat (first | refine VIf.tt ?_ | refine VIf.ff ?_)
   refine VCode.of_vc cxOK ?_
   repeat (first | refine VIf.tt ?_ | refine VIf.ff ?_)
   refine VArith.ok (by first | omega | (simp only; omega)) (by first | omega | (simp only; omega)) ?_
   refine ⟨(i + 1, M1), ⟨hM1, hlt⟩, (by first | omega | (simp only; omega)), Wk.mk' id (by repeat' constructor) ⟨⟨rfl, by repeat' constructor⟩, ⟨rfl, ⟨rfl, rfl, ?_, ?_⟩⟩, trivial⟩ (injOK_id _) rfl rfl rfl⟩
   ·rw [hst, hk, List.append_nil]
   ·rw [hst, hk, List.append_nil]
theorem left_arC {p : List Pt} {A B C : Int} : arC (leftR p A B C p.length) = arC (cutA p A B C) := arC_congr (fun x => mem_leftR) (leftR_len p A B C p.length)
theorem Cut04_fn (v : Value) (ps : List Pt) (A B C : Int) (M : Mem) (hv : Pts M v ps) (h64 : i64P ps) :
  V.Fn Tryz.prog 71 [v, .agg #[.int .i64 A, .int .i64 B, .int .i64 C]] M fun rs M' => if (validB ps && halfB A B C) = true then ∃ u, rs = [u, .bool (decide (0 < (cutA ps A B C).length)), .int .i64 0] ∧ Pts M' u (arC (cutA ps A B C)) else rs = [.slice none 0 0, .bool false, .int .i64 1] := by
 refine Fn.of_vc cxOK Tryz.func71 rfl rfl rfl ?_
 repeat (first | refine VIf.tt ?_ | refine VIf.ff ?_)
 refine VFn.p (ValidR_fn v ps M hv h64) ?_
 rw [validR_eq]
 repeat (first | refine VIf.tt ?_ | refine VIf.ff ?_)
 refine VFn.p (Half04_fn A B C M) ?_
 repeat (first | refine VIf.tt ?_ | refine VIf.ff ?_)
 refine VIf.mk (fun h => ?_) (fun h1 => ?_)
 ·repeat (first | refine VIf.tt ?_ | refine VIf.ff ?_)
  exact VFact.mk (by rw [bn1 h]; rfl) trivial
 have h1 := bn2 h1
 repeat (first | refine VIf.tt ?_ | refine VIf.ff ?_)
 refine VIf.mk (fun h => ?_) (fun h2 => ?_)
 ·repeat (first | refine VIf.tt ?_ | refine VIf.ff ?_)
  exact VFact.mk (by rw [bn1 h, Bool.and_false]; rfl) trivial
 have h2 := bn2 h2
 rw [h1, h2]
 have hl := (len_one h1).2
 have hlen := leftR_len ps A B C ps.length
 have hc5 := cutL_len ps A B C ps.length
 repeat (first | refine VIf.tt ?_ | refine VIf.ff ?_)
 refine VFn.mk _ (Left04_fn v ps A B C M hv (valid_mem h1) hl h2) ?_
 rintro rs M1 hM1 ⟨u, rfl, hu⟩
 repeat (first | refine VIf.tt ?_ | refine VIf.ff ?_)
 refine VFn.mk _ (polygon04_fn u _ M1 hu (fun x hx => cut_place h1 A B C x (mem_leftR.1 hx)) (by omega)) ?_
 rintro rs M2 hM2 ⟨w, rfl, hw⟩
 repeat (first | refine VIf.tt ?_ | refine VIf.ff ?_)
 refine VFact.mk ⟨w, ?_, ?_⟩ trivial
 ·unfold cutA; rw [hlen]
 ·rw [← left_arC]; exact hw
def cellR (p q : List Pt) (i j : Nat) : List Pt := if crossIJ p q i j = true then frameR (gp q j) (nx q j) (crossP (gp p i) (nx p i) (gp q j)) (crossP (gp p i) (nx p i) (nx q j)) else []
def rowR (p q : List Pt) (i k : Nat) : List Pt := (List.range k).flatMap (cellR p q i)
def crosR (p q : List Pt) (k : Nat) : List Pt := (List.range k).flatMap fun i => rowR p q i q.length
theorem rowR_step (p q : List Pt) (i k : Nat) : rowR p q i (k + 1) = rowR p q i k ++ cellR p q i k := by unfold rowR; rw [List.range_succ, List.flatMap_append]; simp
theorem crosR_step (p q : List Pt) (k : Nat) : crosR p q (k + 1) = crosR p q k ++ rowR p q k q.length := by unfold crosR; rw [List.range_succ, List.flatMap_append]; simp
theorem cellR_len (p q : List Pt) (i j : Nat) : (cellR p q i j).length = (cellX p q i j).length := by unfold cellR cellX; split <;> rfl
theorem rowR_len (p q : List Pt) (i : Nat) : ∀ k, (rowR p q i k).length = (rowX p q i k).length
 | 0 => rfl
 | k + 1 => by rw [rowR_step, rowX_step, List.length_append, List.length_append, rowR_len p q i k, cellR_len]
theorem crosR_len (p q : List Pt) : ∀ k, (crosR p q k).length = (crosX p q k).length
 | 0 => rfl
 | k + 1 => by rw [crosR_step, crosX_step, List.length_append, List.length_append, crosR_len p q k, rowR_len]
theorem crosX_len4 (p q : List Pt) (hq : q.length ≤ 8) : ∀ k, (crosX p q k).length ≤ 32 * k
 | 0 => by simp [crosX]
 | k + 1 => by
  have := crosX_len4 p q hq k
  have := rowX_len p q k q.length
  rw [crosX_step, List.length_append]; omega
theorem crossR_fn (a b c : Pt) (M : Mem) (ha : placeB a = true) (hb : placeB b = true) (hc : placeB c = true) : FnP Tryz.prog 79 [ptv a, ptv b, ptv c] M [.int .i64 (crossP a b c)] :=
 Cross_fn a.1 a.2 b.1 b.2 c.1 c.2 M (place_C ha).1 (place_C ha).2 (place_C hb).1 (place_C hb).2 (place_C hc).1 (place_C hc).2
end Go.Proofs.YtdfhnemhkpplbaaGreatDoor
namespace Go.Proofs.YtdfhnemhkpplbaaGreatDoor
open Go Go.V Go.RowKit
theorem crossP_bd2 {a b c : Pt} (ha : placeB a = true) (hb : placeB b = true) (hc : placeB c = true) : -2000000000000 ≤ crossP a b c ∧ crossP a b c ≤ 2000000000000 := crossP_bd ha hb hc
set_option maxRecDepth 20000 in
set_option maxHeartbeats 4000000 in
theorem Crossings04_fn (v w : Value) (ps qs : List Pt) (M : Mem) (hv : Pts M v ps) (hw : Pts M w qs) (hP : ∀ x ∈ ps, placeB x = true) (hQ : ∀ x ∈ qs, placeB x = true) (hl : ps.length ≤ 64) (hl2 : qs.length ≤ 8) :
  V.Fn Tryz.prog 128 [v, w] M fun rs M' => ∃ u, rs = [u] ∧ Pts M' u (crosR ps qs ps.length) := by
 obtain ⟨ad, c, rfl⟩ := hv.shape
 obtain ⟨bd, bc, rfl⟩ := hw.shape
 obtain ⟨_, hm, hrd⟩ := hv.cellsOf
 obtain ⟨_, hm', hrd'⟩ := hw.cellsOf
 refine Fn.of_vc cxOK Tryz.func128 rfl rfl rfl ?_
 repeat (first | refine VIf.tt ?_ | refine VIf.ff ?_)
 refine VCode.loopC (Nat × Mem) (fun (⟨i, M1⟩ : Nat × Mem) => ⟨[(0, .v (.slice ad ps.length c)), (1, .v (.slice bd qs.length bc)), (5, .row 0), (6, .v (.int .i64 i))], [(0, some (.row 24 2 (crosR ps qs i).length (cellsP (crosR ps qs i))))], 1, M1, 84, ⟨fun _ => none, none, fun _ => none⟩⟩)
  (fun (⟨i, M1⟩ : Nat × Mem) => M.le M1 ∧ i ≤ ps.length) (fun (⟨i, _⟩ : Nat × Mem) => ps.length - i) (0, M) ⟨Mem.le_refl _, Nat.zero_le _⟩ (Wk.nil 5 24 2 rfl (Wk.mk' id (by repeat' constructor) (by repeat' constructor) (injOK_id _) rfl rfl rfl)) ?_
 rintro ⟨i, M1⟩ ⟨hM1, hi⟩ m
 have hll : (crosR ps qs i).length ≤ 32 * i := by rw [crosR_len]; exact crosX_len4 ps qs hl2 i
 repeat (first | refine VIf.tt ?_ | refine VIf.ff ?_)
 refine VCode.st cxOK ?_
 repeat (first | refine VIf.tt ?_ | refine VIf.ff ?_)
 refine VIf.mk (fun hlt => ?_) (fun hge => ?_)
 rotate_left
 ·have : i = ps.length := by have := ge_of_dec hge; omega
  subst this
  repeat (first | refine VIf.tt ?_ | refine VIf.ff ?_)
  refine VFz.mk fun x Bx M2 hM2 hx => ?_
  repeat (first | refine VIf.tt ?_ | refine VIf.ff ?_)
  exact VFact.mk ⟨x, rfl, hx⟩ trivial
 have hlt : i < ps.length := lt_of_dec hlt
 have hmod : (i + 1) % ps.length < ps.length := Nat.mod_lt _ (by omega)
 obtain ⟨a1, e1, r1⟩ := hrd M1 hM1 i hlt
 obtain ⟨a2, e2, r2⟩ := hrd M1 hM1 ((i + 1) % ps.length) hmod
 have pa := hP _ (gp_mem hlt)
 have pb : placeB (nx ps i) = true := hP _ (gp_mem hmod)
 repeat (first | refine VIf.tt ?_ | refine VIf.ff ?_)
 refine VCode.seq (VCode.block ?_)
 repeat (first | refine VIf.tt ?_ | refine VIf.ff ?_)
 refine VCode.st cxOK ?_
 repeat (first | refine VIf.tt ?_ | refine VIf.ff ?_)
 refine VIdx.mk a1 i e1 rfl hlt ?_
 repeat (first | refine VIf.tt ?_ | refine VIf.ff ?_)
 refine VReads.mk [.int .i64 (gp ps i).1, .int .i64 (gp ps i).2] rfl r1 ?_
 repeat (first | refine VIf.tt ?_ | refine VIf.ff ?_)
 refine VCode.st cxOK ?_
 repeat (first | refine VIf.tt ?_ | refine VIf.ff ?_)
 refine VArith.ok (by first | omega | (simp only; omega)) (by first | omega | (simp only; omega)) ?_
 repeat (first | refine VIf.tt ?_ | refine VIf.ff ?_)
 refine VDiv.mk (by omega) ?_
 repeat (first | refine VIf.tt ?_ | refine VIf.ff ?_)
 refine VIdx.mk a2 ((i + 1) % ps.length) e2 (by rw [Int.tmod_eq_emod_of_nonneg (by omega)]; simp) hmod ?_
 repeat (first | refine VIf.tt ?_ | refine VIf.ff ?_)
 refine VReads.mk [.int .i64 (nx ps i).1, .int .i64 (nx ps i).2] rfl r2 ?_
 repeat (first | refine VIf.tt ?_ | refine VIf.ff ?_)
 refine VCode.seq (VCode.of_vc cxOK ?_)
 repeat (first | refine VIf.tt ?_ | refine VIf.ff ?_)
 refine VCode.block ?_
 repeat (first | refine VIf.tt ?_ | refine VIf.ff ?_)
 refine VCode.loopC (Nat × Mem) (fun (⟨j, M2⟩ : Nat × Mem) => ⟨[(0, .v (.slice ad ps.length c)), (1, .v (.slice bd qs.length bc)), (5, .row 0), (6, .v (.int .i64 i)), (7, .box 1 0), (8, .box 2 0), (9, .v (.int .i64 j))], [(0, some (.row 24 2 (crosR ps qs i ++ rowR ps qs i j).length (cellsP (crosR ps qs i ++ rowR ps qs i j)))), (1, some (.box 24 [.v (.int .i64 (gp ps i).1), .v (.int .i64 (gp ps i).2)])), (2, some (.box 24 [.v (.int .i64 (nx ps i).1), .v (.int .i64 (nx ps i).2)]))], 3, M2, 84, ⟨fun _ => none, none, fun _ => none⟩⟩)
  (fun (⟨j, M2⟩ : Nat × Mem) => M.le M2 ∧ j ≤ qs.length) (fun (⟨j, _⟩ : Nat × Mem) => qs.length - j) (0, M1) ⟨hM1, Nat.zero_le _⟩ ?_ ?_
 ·have e : crosR ps qs i ++ rowR ps qs i 0 = crosR ps qs i := by unfold rowR; simp
  simp only [e]
  exact (Wk.mk' id (by repeat' constructor) (by repeat' constructor) (injOK_id _) rfl rfl rfl)
 rintro ⟨j, M2⟩ ⟨hM2, hj⟩ m2
 have hrl : (rowR ps qs i j).length ≤ 4 * j := by rw [rowR_len]; exact rowX_len ps qs i j
 have hall : (crosR ps qs i ++ rowR ps qs i j).length ≤ 4000 := by rw [List.length_append]; omega
 repeat (first | refine VIf.tt ?_ | refine VIf.ff ?_)
 refine VCode.st cxOK ?_
 repeat (first | refine VIf.tt ?_ | refine VIf.ff ?_)
 refine VIf.mk (fun hlj => ?_) (fun hgj => ?_)
 rotate_left
 ·have : j = qs.length := by have := ge_of_dec hgj; omega
  subst this
  repeat (first | refine VIf.tt ?_ | refine VIf.ff ?_)
  refine VCode.of_vc cxOK ?_
  repeat (first | refine VIf.tt ?_ | refine VIf.ff ?_)
  refine VArith.ok (by first | omega | (simp only; omega)) (by first | omega | (simp only; omega)) ?_
  have e : crosR ps qs i ++ rowR ps qs i qs.length = crosR ps qs (i + 1) := (crosR_step ps qs i).symm
  refine ⟨(i + 1, M2), ⟨hM2, hlt⟩, (by first | omega | (simp only; omega)), Wk.mk' id (by repeat' constructor) ⟨⟨rfl, ⟨rfl, rfl, ?_, ?_⟩⟩, trivial⟩ (injOK_id _) rfl rfl rfl⟩
  ·rw [e]
  ·rw [e]
 have hlj : j < qs.length := lt_of_dec hlj
 have hmodj : (j + 1) % qs.length < qs.length := Nat.mod_lt _ (by omega)
 obtain ⟨b1, f1, s1⟩ := hrd' M2 hM2 j hlj
 obtain ⟨b2, f2, s2⟩ := hrd' M2 hM2 ((j + 1) % qs.length) hmodj
 have qa := hQ _ (gp_mem hlj)
 have qb : placeB (nx qs j) = true := hQ _ (gp_mem hmodj)
 have k1 := crossP_bd2 pa pb qa
 have k2 := crossP_bd2 pa pb qb
 have hst : crosR ps qs i ++ rowR ps qs i (j + 1) = (crosR ps qs i ++ rowR ps qs i j) ++ cellR ps qs i j := by rw [rowR_step, List.append_assoc]
 repeat (first | refine VIf.tt ?_ | refine VIf.ff ?_)
 refine VCode.seq (VCode.block ?_)
 repeat (first | refine VIf.tt ?_ | refine VIf.ff ?_)
 refine VCode.st cxOK ?_
 repeat (first | refine VIf.tt ?_ | refine VIf.ff ?_)
 refine VIdx.mk b1 j f1 rfl hlj ?_
 repeat (first | refine VIf.tt ?_ | refine VIf.ff ?_)
 refine VReads.mk [.int .i64 (gp qs j).1, .int .i64 (gp qs j).2] rfl s1 ?_
 repeat (first | refine VIf.tt ?_ | refine VIf.ff ?_)
 refine VCode.st cxOK ?_
 repeat (first | refine VIf.tt ?_ | refine VIf.ff ?_)
 refine VArith.ok (by first | omega | (simp only; omega)) (by first | omega | (simp only; omega)) ?_
 repeat (first | refine VIf.tt ?_ | refine VIf.ff ?_)
 refine VDiv.mk (by omega) ?_
 repeat (first | refine VIf.tt ?_ | refine VIf.ff ?_)
 refine VIdx.mk b2 ((j + 1) % qs.length) f2 (by rw [Int.tmod_eq_emod_of_nonneg (by omega)]; simp) hmodj ?_
 repeat (first | refine VIf.tt ?_ | refine VIf.ff ?_)
 refine VReads.mk [.int .i64 (nx qs j).1, .int .i64 (nx qs j).2] rfl s2 ?_
 repeat (first | refine VIf.tt ?_ | refine VIf.ff ?_)
 refine VCode.st cxOK ?_
 repeat (first | refine VIf.tt ?_ | refine VIf.ff ?_)
 refine VFn.p (crossR_fn (gp ps i) (nx ps i) (gp qs j) M2 pa pb qa) ?_
 repeat (first | refine VIf.tt ?_ | refine VIf.ff ?_)
 refine VCode.st cxOK ?_
 repeat (first | refine VIf.tt ?_ | refine VIf.ff ?_)
 refine VFn.p (crossR_fn (gp ps i) (nx ps i) (nx qs j) M2 pa pb qb) ?_
 repeat (first | refine VIf.tt ?_ | refine VIf.ff ?_)
 refine VCode.st cxOK ?_
 repeat (first | refine VIf.tt ?_ | refine VIf.ff ?_)
 refine VFn.p (differ04_fn _ _ M2) ?_
 repeat (first | refine VIf.tt ?_ | refine VIf.ff ?_)
 refine VCode.st cxOK ?_
 repeat (first | refine VIf.tt ?_ | refine VIf.ff ?_)
 refine VDraw.go (by kernel_rfl) ?_
 repeat (first | refine VIf.tt ?_ | refine VIf.ff ?_)
 refine VFn.p (crossR_fn (gp qs j) (nx qs j) (gp ps i) M2 qa qb pa) ?_
 repeat (first | refine VIf.tt ?_ | refine VIf.ff ?_)
 refine VFn.p (crossR_fn (gp qs j) (nx qs j) (nx ps i) M2 qa qb pb) ?_
 repeat (first | refine VIf.tt ?_ | refine VIf.ff ?_)
 refine VFn.p (differ04_fn _ _ M2) ?_
 repeat (first | refine VIf.tt ?_ | refine VIf.ff ?_)
 refine VCode.of_vc cxOK ?_
 by_cases hc : crossIJ ps qs i j = true
 ·have hk : cellR ps qs i j = frameR (gp qs j) (nx qs j) (crossP (gp ps i) (nx ps i) (gp qs j)) (crossP (gp ps i) (nx ps i) (nx qs j)) := by unfold cellR; rw [if_pos hc]
  have hc2 := hc
  unfold crossIJ at hc2
  rw [Bool.and_eq_true] at hc2
  repeat (first | refine VIf.tt ?_ | refine VIf.ff ?_)
  refine VIf.mk (fun _ => ?_) (fun h => absurd (hc2.1.symm.trans h) (by decide))
  repeat (first | refine VIf.tt ?_ | refine VIf.ff ?_)
  refine VIf.mk (fun _ => ?_) (fun h => absurd (hc2.2.symm.trans h) (by decide))
  repeat (first | refine VIf.tt ?_ | refine VIf.ff ?_)
  refine VFn.mk _ (frame04_fn (gp qs j) (nx qs j) _ _ M2 qa qb k1 k2 hc2.1) ?_
  rintro rs M3 hM3 ⟨u, rfl, hu⟩
  repeat (first | refine VIf.tt ?_ | refine VIf.ff ?_)
  refine VSl.mk _ _ hu ?_
  have hb : ((crosR ps qs i ++ rowR ps qs i j).length + (frameR (gp qs j) (nx qs j) (crossP (gp ps i) (nx ps i) (gp qs j)) (crossP (gp ps i) (nx ps i) (nx qs j))).length) * 16 ≤ 140737488355328 := by show (_ + 4) * 16 ≤ _; omega
  repeat (first | refine VIf.tt ?_ | refine VIf.ff ?_)
  refine VFact.mk hb ?_
  repeat (first | refine VIf.tt ?_ | refine VIf.ff ?_)
  refine VCode.of_vc cxOK ?_
  repeat (first | refine VIf.tt ?_ | refine VIf.ff ?_)
  refine VArith.ok (by first | omega | (simp only; omega)) (by first | omega | (simp only; omega)) ?_
  rw [hk] at hst
  refine ⟨(j + 1, M3), ⟨hM2.trans hM3, hlj⟩, (by first | omega | (simp only; omega)), Wk.mk' (fun k => if k = 0 then 5 else k) (by repeat' constructor) ⟨⟨rfl, ⟨rfl, rfl, ?_, ?_⟩⟩, ⟨rfl, by repeat' constructor⟩, ⟨rfl, by repeat' constructor⟩, trivial⟩ (by simp [injOK]) rfl rfl rfl⟩
  ·rw [hst, List.length_append (bs := frameR _ _ _ _)]
  ·rw [hst, cellsP_app _ (frameR _ _ _ _)]
 ·have hk : cellR ps qs i j = [] := by unfold cellR; rw [if_neg hc]
  rw [hk, List.append_nil] at hst
  have fin : ∀ {K : Prop}, K → K := fun h => h
  repeat (first | refine VIf.tt ?_ | refine VIf.ff ?_)
  refine VIf.mk (fun h1 => ?_) (fun h1 => ?_)
  ·repeat (first | refine VIf.tt ?_ | refine VIf.ff ?_)
   refine VIf.mk (fun h2 => absurd (by unfold crossIJ; rw [h1, h2]; rfl) hc) (fun h2 => ?_)
   repeat (first | refine VIf.tt ?_ | refine VIf.ff ?_)
   refine VCode.of_vc cxOK ?_
   repeat (first | refine VIf.tt ?_ | refine VIf.ff ?_)
   refine VArith.ok (by first | omega | (simp only; omega)) (by first | omega | (simp only; omega)) ?_
   refine ⟨(j + 1, M2), ⟨hM2, hlj⟩, (by first | omega | (simp only; omega)), Wk.mk' id (by repeat' constructor) ⟨⟨rfl, ⟨rfl, rfl, ?_, ?_⟩⟩, ⟨rfl, by repeat' constructor⟩, ⟨rfl, by repeat' constructor⟩, trivial⟩ (injOK_id _) rfl rfl rfl⟩
   ·rw [hst]
   ·rw [hst]
  ·repeat (first | refine VIf.tt ?_ | refine VIf.ff ?_)
   repeat (first | refine VIf.tt ?_ | refine VIf.ff ?_)
   refine VCode.of_vc cxOK ?_
   repeat (first | refine VIf.tt ?_ | refine VIf.ff ?_)
   refine VArith.ok (by first | omega | (simp only; omega)) (by first | omega | (simp only; omega)) ?_
   refine ⟨(j + 1, M2), ⟨hM2, hlj⟩, (by first | omega | (simp only; omega)), Wk.mk' id (by repeat' constructor) ⟨⟨rfl, ⟨rfl, rfl, ?_, ?_⟩⟩, ⟨rfl, by repeat' constructor⟩, ⟨rfl, by repeat' constructor⟩, trivial⟩ (injOK_id _) rfl rfl rfl⟩
   ·rw [hst]
   ·rw [hst]
def bothR (p q : List Pt) : List Pt := cornA p q ++ (cornA q p ++ crosR p q p.length)
theorem bothR_len (p q : List Pt) : (bothR p q).length = (sharA p q).length := by
 unfold bothR sharA crosA
 simp only [List.length_append, crosR_len]
theorem both04_fn (v w : Value) (ps qs : List Pt) (M : Mem) (hv : Pts M v ps) (hw : Pts M w qs) (hp : validB ps = true) (hq : validB qs = true) (hl2 : qs.length ≤ 8) :
  V.Fn Tryz.prog 108 [v, w] M fun rs M' => ∃ u, rs = [u] ∧ Pts M' u (bothR ps qs) := by
 have hlp := (len_one hp).2
 have c1 := List.length_filter_le (hasB qs) ps
 have c2 := List.length_filter_le (hasB ps) qs
 have c3 := crosX_len4 ps qs hl2 ps.length
 rw [← crosR_len] at c3
 refine Fn.of_vc cxOK Tryz.func108 rfl rfl rfl ?_
 repeat (first | refine VIf.tt ?_ | refine VIf.ff ?_)
 refine VFn.mk _ (CornersR_fn v w ps qs M hv hw (allC_valid hp) (by omega) (allC_valid hq)) ?_
 rintro rs M1 hM1 ⟨u1, rfl, h1⟩
 repeat (first | refine VIf.tt ?_ | refine VIf.ff ?_)
 refine VSl.mk _ _ h1 ?_
 repeat (first | refine VIf.tt ?_ | refine VIf.ff ?_)
 refine VFact.mk (show (ps.filter (hasB qs)).length * 16 ≤ 140737488355328 by omega) ?_
 repeat (first | refine VIf.tt ?_ | refine VIf.ff ?_)
 refine VFn.mk _ (CornersR_fn w v qs ps M1 (hw.le hM1) (hv.le hM1) (allC_valid hq) (by omega) (allC_valid hp)) ?_
 rintro rs M2 hM2 ⟨u2, rfl, h2⟩
 repeat (first | refine VIf.tt ?_ | refine VIf.ff ?_)
 refine VSl.mk _ _ h2 ?_
 repeat (first | refine VIf.tt ?_ | refine VIf.ff ?_)
 refine VFact.mk (show ((ps.filter (hasB qs)).length + (qs.filter (hasB ps)).length) * 16 ≤ 140737488355328 by omega) ?_
 repeat (first | refine VIf.tt ?_ | refine VIf.ff ?_)
 refine VFn.mk _ (Crossings04_fn v w ps qs M2 (hv.le (hM1.trans hM2)) (hw.le (hM1.trans hM2)) (valid_mem hp) (valid_mem hq) hlp hl2) ?_
 rintro rs M3 hM3 ⟨u3, rfl, h3⟩
 repeat (first | refine VIf.tt ?_ | refine VIf.ff ?_)
 refine VSl.mk _ _ h3 ?_
 repeat (first | refine VIf.tt ?_ | refine VIf.ff ?_)
 refine VFact.mk (show ((ps.filter (hasB qs)).length + (qs.filter (hasB ps)).length + (crosR ps qs ps.length).length) * 16 ≤ 140737488355328 by omega) ?_
 repeat (first | refine VIf.tt ?_ | refine VIf.ff ?_)
 refine VFz.mk fun x Bx M4 hM4 hx => ?_
 repeat (first | refine VIf.tt ?_ | refine VIf.ff ?_)
 refine VFact.mk ⟨x, rfl, ?_⟩ trivial
 have e1 : (bothR ps qs).length = (ps.filter (hasB qs)).length + (qs.filter (hasB ps)).length + (crosR ps qs ps.length).length := by
  unfold bothR cornA; simp only [List.length_append]; omega
 have e2 : cellsP (bothR ps qs) = cellsP (ps.filter (hasB qs)) ++ cellsP (qs.filter (hasB ps)) ++ cellsP (crosR ps qs ps.length) := by
  unfold bothR cornA; simp only [cellsP_app, List.append_assoc]
 unfold Pts
 rw [e1, e2]
 exact hx
end Go.Proofs.YtdfhnemhkpplbaaGreatDoor
namespace Go.Proofs.YtdfhnemhkpplbaaGreatDoor
open Go Go.V Go.RowKit
set_option maxRecDepth 20000 in
set_option maxHeartbeats 8000000 in
theorem Out_fn (v : Value) (r : List (List Pt)) (lo hi : Pt) (M : Mem) (hv : RegV M v r) : V.Fn Tryz.prog 32 [v, ptv lo, ptv hi] M fun rs M' => if outOK r lo hi = true then ∃ u, rs = [u, .int .i64 0] ∧ RegV M' u (withoutB r lo hi) else rs = [.slice none 0 0, .int .i64 1] := by
 have hVr := regValid_fn v r M hv
 obtain ⟨ad, c, rfl, hm, hrd⟩ := hv.get
 refine Fn.of_vc cxOK Tryz.func32 rfl rfl rfl ?_
 repeat (first | refine VIf.tt ?_ | refine VIf.ff ?_)
 refine VFn.mk _ hVr ?_
 rintro rs M1 hM1 rfl
 repeat (first | refine VIf.tt ?_ | refine VIf.ff ?_)
 refine VIf.mk (fun h => ?_) (fun h1 => ?_)
 ·repeat (first | refine VIf.tt ?_ | refine VIf.ff ?_)
  exact VFact.mk (by unfold outOK; rw [bn1 h]; rfl) trivial
 have h1 := bn2 h1
 repeat (first | refine VIf.tt ?_ | refine VIf.ff ?_)
 refine VFn.p (regPlace_fn _ _ _) ?_
 repeat (first | refine VIf.tt ?_ | refine VIf.ff ?_)
 refine VIf.mk (fun h => ?_) (fun h2 => ?_)
 ·repeat (first | refine VIf.tt ?_ | refine VIf.ff ?_)
  exact VFact.mk (by unfold outOK; rw [show placeB lo = false from bn1 h, Bool.false_and, Bool.and_false]; rfl) trivial
 have h2 : placeB lo = true := bn2 h2
 repeat (first | refine VIf.tt ?_ | refine VIf.ff ?_)
 refine VFn.p (regPlace_fn _ _ _) ?_
 repeat (first | refine VIf.tt ?_ | refine VIf.ff ?_)
 refine VIf.mk (fun h => ?_) (fun h3 => ?_)
 ·repeat (first | refine VIf.tt ?_ | refine VIf.ff ?_)
  exact VFact.mk (by unfold outOK; rw [show placeB hi = false from bn1 h, Bool.false_and, Bool.and_false, Bool.and_false]; rfl) trivial
 have h3 : placeB hi = true := bn2 h3
 repeat (first | refine VIf.tt ?_ | refine VIf.ff ?_)
 refine VIf.mk (fun h => ?_) (fun h4 => ?_)
 ·repeat (first | refine VIf.tt ?_ | refine VIf.ff ?_)
  exact VFact.mk (by unfold outOK; rw [decide_eq_false (show ¬ lo.1 ≤ hi.1 by have := of_decide_eq_true h; omega), Bool.false_and, Bool.and_false, Bool.and_false, Bool.and_false]; rfl) trivial
 have h4 : lo.1 ≤ hi.1 := by have := of_decide_eq_false h4; omega
 repeat (first | refine VIf.tt ?_ | refine VIf.ff ?_)
 refine VIf.mk (fun h => ?_) (fun h5 => ?_)
 ·repeat (first | refine VIf.tt ?_ | refine VIf.ff ?_)
  exact VFact.mk (by unfold outOK; rw [decide_eq_false (show ¬ lo.2 ≤ hi.2 by have := of_decide_eq_true h; omega), Bool.and_false, Bool.and_false, Bool.and_false, Bool.and_false]; rfl) trivial
 have h5 : lo.2 ≤ hi.2 := by have := of_decide_eq_false h5; omega
 have hok : outOK r lo hi = true := by unfold outOK; rw [h1, h2, h3, decide_eq_true h4, decide_eq_true h5]; rfl
 rw [hok]
 have cl := place_C h2
 have ch := place_C h3
 unfold isC at cl ch
 have hall : ∀ p ∈ r, validB p = true := by
  simp only [regionB, Bool.and_eq_true] at h1
  exact fun p hp => List.all_eq_true.1 h1.2 p hp
 have hr32 : r.length ≤ 32 := by
  simp only [regionB, Bool.and_eq_true, decide_eq_true_eq] at h1
  exact h1.1
 have ql := fun i => flatMap_len (outP lo hi) 4 (fun p => outP_len p lo hi) (r.take i)
 repeat (first | refine VIf.tt ?_ | refine VIf.ff ?_)
 refine VCode.loopC (Nat × List Value × Mem) (fun (⟨i, xs, M2⟩ : Nat × List Value × Mem) => ⟨[(4, .box 0 0), (5, .box 1 0), (8, .box 2 0), (43, .v (.slice ad r.length c)), (44, .v (.int .i64 r.length)), (45, .v (.int .i64 i))], [(0, some (.box 24 [.v (.int .i64 lo.1), .v (.int .i64 lo.2)])), (1, some (.box 24 [.v (.int .i64 hi.1), .v (.int .i64 hi.2)])), (2, some (.box 79 [.row 3])), (3, some (.row 27 1 xs.length xs))], 4, M2, 119, ⟨fun _ => none, none, fun _ => none⟩⟩)
  (fun (⟨i, xs, M2⟩ : Nat × List Value × Mem) => (M1.le M2 ∧ i ≤ r.length) ∧ PlsV M2 xs ((r.take i).flatMap (outP lo hi))) (fun (⟨i, _, _⟩ : Nat × List Value × Mem) => r.length - i) (0, [], M1) ⟨⟨Mem.le_refl _, Nat.zero_le _⟩, PlsV.nil _⟩ (Wk.nilBox 2 79 [] [] 27 1 rfl (Wk.mk' id (by repeat' constructor) (by repeat' constructor) (injOK_id _) rfl rfl rfl)) ?_
 rintro ⟨i, xs, M2⟩ ⟨⟨hM2, hi'⟩, hp⟩ m
 have hxl : xs.length ≤ 128 := by have := ql i; rw [hp.1]; rw [List.length_take] at this; omega
 have m2 := hM1.trans hM2
 repeat (first | refine VIf.tt ?_ | refine VIf.ff ?_)
 refine VCode.st cxOK ?_
 repeat (first | refine VIf.tt ?_ | refine VIf.ff ?_)
 refine VCode.st cxOK ?_
 repeat (first | refine VIf.tt ?_ | refine VIf.ff ?_)
 refine VIf.mk (fun hlt => ?_) (fun hge => ?_)
 rotate_left
 ·have : i = r.length := by have := ge_of_dec hge; omega
  subst this
  rw [List.take_length] at hp
  repeat (first | refine VIf.tt ?_ | refine VIf.ff ?_)
  refine VOwn.frz ?_
  repeat (first | refine VIf.tt ?_ | refine VIf.ff ?_)
  refine VFz.mk fun x Bx M3 hM3 hx => ?_
  repeat (first | refine VIf.tt ?_ | refine VIf.ff ?_)
  refine VFzB.mk fun y By M4 hM4 hy => ?_
  have hx2 := RegV.of' hx hp.1 (hp.le hM3)
  obtain ⟨xa, xc, rfl⟩ := hx2.shape
  have ql' := ql r.length
  rw [List.take_length] at ql'
  repeat (first | refine VIf.tt ?_ | refine VIf.ff ?_)
  refine VFn.mk _ (tidied_fn By _ _ M4 hy (hx2.le hM4) (fun p hp => ?_) (by omega)) ?_
  ·obtain ⟨q, hq, hp⟩ := List.mem_flatMap.1 hp
   exact outP_valid (hall q hq) lo hi p hp
  rintro rs M5 hM5 ⟨u, rfl, hu⟩
  repeat (first | refine VIf.tt ?_ | refine VIf.ff ?_)
  exact VFact.mk ⟨u, rfl, hu⟩ trivial
 have hlt : i < r.length := lt_of_dec hlt
 obtain ⟨a1, w, e1, p1, q1, c1⟩ := hrd M2 m2 i hlt
 have hV : validB (gr r i) = true := val_gr hall hlt
 have p1 : Pts M2 w (gr r i) := p1
 have hst : (r.take (i + 1)).flatMap (outP lo hi) = (r.take i).flatMap (outP lo hi) ++ outP lo hi (gr r i) := flatR_take [] (outP lo hi) r hlt
 have q1 : i64P (gr r i) := q1
 generalize gr r i = p at *
 repeat (first | refine VIf.tt ?_ | refine VIf.ff ?_)
 refine VCode.seq (VCode.block ?_)
 repeat (first | refine VIf.tt ?_ | refine VIf.ff ?_)
 refine VCode.st cxOK ?_
 repeat (first | refine VIf.tt ?_ | refine VIf.ff ?_)
 refine VIdx.mk a1 i e1 rfl hlt ?_
 repeat (first | refine VIf.tt ?_ | refine VIf.ff ?_)
 refine VRead.mk w c1 ?_
 repeat (first | refine VIf.tt ?_ | refine VIf.ff ?_)
 refine VCode.st cxOK ?_
 repeat (first | refine VIf.tt ?_ | refine VIf.ff ?_)
 refine VArith.ok (by first | omega | (simp only; omega)) (by first | omega | (simp only; omega)) ?_
 repeat (first | refine VIf.tt ?_ | refine VIf.ff ?_)
 refine VFn.mk _ (Cut_is (A := 1) (B := 0) (C := lo.1 - 1) p1 q1 hV (half_x _ (by omega)).1 rfl rfl) ?_
 rintro rs M3 hM3 ⟨u1, rfl, hu1⟩
 obtain ⟨d1, k1, rfl⟩ := hu1.shape
 repeat (first | refine VIf.tt ?_ | refine VIf.ff ?_)
 refine VOwn.own ?_
 refine VCall.wk (st1 := ⟨[(4, .box 0 0), (5, .box 1 0), (8, .box 2 0), (10, .v w), (43, .v (.slice ad r.length c)), (44, .v (.int .i64 r.length)), (45, .v (.int .i64 i))], [(0, some (.box 24 [.v (.int .i64 lo.1), .v (.int .i64 lo.2)])), (1, some (.box 24 [.v (.int .i64 hi.1), .v (.int .i64 hi.2)])), (2, some (.box 79 [.row 3])), (3, some (.row 27 1 xs.length xs))], 4, M3, 119, ⟨m, none, _⟩⟩) (args1 := [.box 2 0, .v (.slice d1 (arC (cutA p 1 0 (lo.1 - 1))).length k1), .v (.bool (decide (0 < (cutA p 1 0 (lo.1 - 1)).length))), .v (.int .i64 0)]) id rfl rfl (by repeat' constructor) (by repeat' constructor) (injOK_id _) rfl rfl rfl ?_
 refine add_call0 rfl rfl (by omega) ?_
 have P1 := add_pls (hp.le hM3) hu1 (cut_place hV 1 0 (lo.1 - 1))
 have L1 := addL_len (decide (0 < (cutA p 1 0 (lo.1 - 1)).length)) xs (.slice d1 (arC (cutA p 1 0 (lo.1 - 1))).length k1)
 generalize hX1 : addL (decide (0 < (cutA p 1 0 (lo.1 - 1)).length)) xs (.slice d1 (arC (cutA p 1 0 (lo.1 - 1))).length k1) = xs1 at *
 repeat (first | refine VIf.tt ?_ | refine VIf.ff ?_)
 refine VCode.st cxOK ?_
 repeat (first | refine VIf.tt ?_ | refine VIf.ff ?_)
 refine VArith.ok (by first | omega | (simp only; omega)) (by first | omega | (simp only; omega)) ?_
 repeat (first | refine VIf.tt ?_ | refine VIf.ff ?_)
 refine VArith.ok (by first | omega | (simp only; omega)) (by first | omega | (simp only; omega)) ?_
 repeat (first | refine VIf.tt ?_ | refine VIf.ff ?_)
 refine VFn.mk _ (Cut_is (A := -1) (B := 0) (C := -(hi.1 + 1)) (p1.le hM3) q1 hV (half_x _ (by omega)).2.1 rfl rfl) ?_
 rintro rs M4 hM4 ⟨u2, rfl, hu2⟩
 obtain ⟨d2, k2, rfl⟩ := hu2.shape
 repeat (first | refine VIf.tt ?_ | refine VIf.ff ?_)
 refine VOwn.own ?_
 refine VCall.wk (st1 := ⟨[(4, .box 0 0), (5, .box 1 0), (8, .box 2 0), (10, .v w), (43, .v (.slice ad r.length c)), (44, .v (.int .i64 r.length)), (45, .v (.int .i64 i))], [(0, some (.box 24 [.v (.int .i64 lo.1), .v (.int .i64 lo.2)])), (1, some (.box 24 [.v (.int .i64 hi.1), .v (.int .i64 hi.2)])), (2, some (.box 79 [.row 3])), (3, some (.row 27 1 xs1.length xs1))], 4, M4, 119, ⟨m, none, _⟩⟩) (args1 := [.box 2 0, .v (.slice d2 (arC (cutA p (-1) 0 (-(hi.1 + 1)))).length k2), .v (.bool (decide (0 < (cutA p (-1) 0 (-(hi.1 + 1))).length))), .v (.int .i64 0)]) id rfl rfl (by repeat' constructor) (by repeat' constructor) (injOK_id _) rfl rfl rfl ?_
 refine add_call0 rfl rfl (by omega) ?_
 have P2 := add_pls (P1.le hM4) hu2 (cut_place hV (-1) 0 (-(hi.1 + 1)))
 have L2 := addL_len (decide (0 < (cutA p (-1) 0 (-(hi.1 + 1))).length)) xs1 (.slice d2 (arC (cutA p (-1) 0 (-(hi.1 + 1)))).length k2)
 generalize hX2 : addL (decide (0 < (cutA p (-1) 0 (-(hi.1 + 1))).length)) xs1 (.slice d2 (arC (cutA p (-1) 0 (-(hi.1 + 1)))).length k2) = xs2 at *
 repeat (first | refine VIf.tt ?_ | refine VIf.ff ?_)
 refine VCode.st cxOK ?_
 repeat (first | refine VIf.tt ?_ | refine VIf.ff ?_)
 refine VArith.ok (by first | omega | (simp only; omega)) (by first | omega | (simp only; omega)) ?_
 repeat (first | refine VIf.tt ?_ | refine VIf.ff ?_)
 refine VFn.mk _ (Cut_is (A := -1) (B := 0) (C := -lo.1) (p1.le (hM3.trans hM4)) q1 hV (half_x _ (by omega)).2.1 rfl rfl) ?_
 rintro rs M5 hM5 ⟨u3, rfl, hu3⟩
 have n5 := hM3.trans (hM4.trans hM5)
 have e3 := leftL_one p (-1) 0 (-lo.1)
 repeat (first | refine VIf.tt ?_ | refine VIf.ff ?_)
 refine VCode.st cxOK ?_
 repeat (first | refine VIf.tt ?_ | refine VIf.ff ?_)
 refine VIf.mk (fun hz => ?_) (fun hz => ?_)
 ·have hz : cutA p (-1) 0 (-lo.1) = [] := List.eq_nil_of_length_eq_zero (by have := of_decide_eq_false ((Bool.not_eq_true' _).mp hz); omega)
  repeat (first | refine VIf.tt ?_ | refine VIf.ff ?_)
  refine VCode.of_vc cxOK ?_
  repeat (first | refine VIf.tt ?_ | refine VIf.ff ?_)
  refine VArith.ok (by first | omega | (simp only; omega)) (by first | omega | (simp only; omega)) ?_
  refine ⟨(i + 1, xs2, M5), ⟨⟨hM2.trans n5, hlt⟩, ?_⟩, (by first | omega | (simp only; omega)), (Wk.mk' id (by repeat' constructor) (by repeat' constructor) (injOK_id _) rfl rfl rfl)⟩
  rw [hst]
  have : midL p lo hi = [] := by unfold midL; rw [e3, hz]; rfl
  unfold outP
  rw [this, leftL_one, leftL_one, leftL_nil, leftL_nil]
  simp only [List.append_nil]
  rw [← List.append_assoc]
  exact P2.le hM5
 have hz : cutA p (-1) 0 (-lo.1) ≠ [] := fun e => by rw [e] at hz; exact absurd hz (by decide)
 have hV3 := arC_valid hz (cut_place hV (-1) 0 (-lo.1))
 have e3 : leftL [p] (-1) 0 (-lo.1) = [arC (cutA p (-1) 0 (-lo.1))] := by rw [e3]; unfold optL; rw [if_neg hz]
 repeat (first | refine VIf.tt ?_ | refine VIf.ff ?_)
 refine VCode.st cxOK ?_
 repeat (first | refine VIf.tt ?_ | refine VIf.ff ?_)
 refine VFn.mk _ (Cut_is (A := 1) (B := 0) (C := hi.1) hu3 (valid_64 hV3) hV3 (half_x _ (by omega)).1 rfl rfl) ?_
 rintro rs M6 hM6 ⟨u4, rfl, hu4⟩
 have n6 := n5.trans hM6
 have e4 := leftL_one (arC (cutA p (-1) 0 (-lo.1))) 1 0 hi.1
 repeat (first | refine VIf.tt ?_ | refine VIf.ff ?_)
 refine VCode.of_vc cxOK ?_
 repeat (first | refine VIf.tt ?_ | refine VIf.ff ?_)
 refine VIf.mk (fun hy => ?_) (fun hy => ?_)
 rotate_left
 ·have hy : cutA (arC (cutA p (-1) 0 (-lo.1))) 1 0 hi.1 = [] := List.eq_nil_of_length_eq_zero (by have := of_decide_eq_false hy; omega)
  repeat (first | refine VIf.tt ?_ | refine VIf.ff ?_)
  refine VCode.of_vc cxOK ?_
  repeat (first | refine VIf.tt ?_ | refine VIf.ff ?_)
  refine VArith.ok (by first | omega | (simp only; omega)) (by first | omega | (simp only; omega)) ?_
  refine ⟨(i + 1, xs2, M6), ⟨⟨hM2.trans n6, hlt⟩, ?_⟩, (by first | omega | (simp only; omega)), (Wk.mk' id (by repeat' constructor) (by repeat' constructor) (injOK_id _) rfl rfl rfl)⟩
  rw [hst]
  have : midL p lo hi = [] := by unfold midL; rw [e3, e4, hy]; rfl
  unfold outP
  rw [this, leftL_one, leftL_one, leftL_nil, leftL_nil]
  simp only [List.append_nil]
  rw [← List.append_assoc]
  exact P2.le (hM5.trans hM6)
 have hy : cutA (arC (cutA p (-1) 0 (-lo.1))) 1 0 hi.1 ≠ [] := fun e => by rw [e] at hy; exact absurd hy (by decide)
 have hV4 := arC_valid hy (cut_place hV3 1 0 hi.1)
 have em : midL p lo hi = [arC (cutA (arC (cutA p (-1) 0 (-lo.1))) 1 0 hi.1)] := by unfold midL; rw [e3, e4]; unfold optL; rw [if_neg hy]
 generalize arC (cutA (arC (cutA p (-1) 0 (-lo.1))) 1 0 hi.1) = q at *
 obtain ⟨d4, k4, rfl⟩ := hu4.shape
 repeat (first | refine VIf.tt ?_ | refine VIf.ff ?_)
 refine VArith.ok (by first | omega | (simp only; omega)) (by first | omega | (simp only; omega)) ?_
 repeat (first | refine VIf.tt ?_ | refine VIf.ff ?_)
 refine VFn.mk _ (Cut_is (A := 0) (B := 1) (C := lo.2 - 1) hu4 (valid_64 hV4) hV4 (half_x _ (by omega)).2.2.1 rfl rfl) ?_
 rintro rs M7 hM7 ⟨u5, rfl, hu5⟩
 obtain ⟨d5, k5, rfl⟩ := hu5.shape
 repeat (first | refine VIf.tt ?_ | refine VIf.ff ?_)
 refine VOwn.own ?_
 refine VCall.wk (st1 := ⟨[(4, .box 0 0), (5, .box 1 0), (8, .box 2 0), (14, .v (.slice d4 q.length k4)), (43, .v (.slice ad r.length c)), (44, .v (.int .i64 r.length)), (45, .v (.int .i64 i))], [(0, some (.box 24 [.v (.int .i64 lo.1), .v (.int .i64 lo.2)])), (1, some (.box 24 [.v (.int .i64 hi.1), .v (.int .i64 hi.2)])), (2, some (.box 79 [.row 3])), (3, some (.row 27 1 xs2.length xs2))], 4, M7, 119, ⟨m, none, _⟩⟩) (args1 := [.box 2 0, .v (.slice d5 (arC (cutA q 0 1 (lo.2 - 1))).length k5), .v (.bool (decide (0 < (cutA q 0 1 (lo.2 - 1)).length))), .v (.int .i64 0)]) id rfl rfl (by repeat' constructor) (by repeat' constructor) (injOK_id _) rfl rfl rfl ?_
 refine add_call1 rfl rfl (by omega) ?_
 have P3 := add_pls (P2.le (hM5.trans (hM6.trans hM7))) hu5 (cut_place hV4 0 1 (lo.2 - 1))
 have L3 := addL_len (decide (0 < (cutA q 0 1 (lo.2 - 1)).length)) xs2 (.slice d5 (arC (cutA q 0 1 (lo.2 - 1))).length k5)
 generalize hX3 : addL (decide (0 < (cutA q 0 1 (lo.2 - 1)).length)) xs2 (.slice d5 (arC (cutA q 0 1 (lo.2 - 1))).length k5) = xs3 at *
 repeat (first | refine VIf.tt ?_ | refine VIf.ff ?_)
 refine VArith.ok (by first | omega | (simp only; omega)) (by first | omega | (simp only; omega)) ?_
 repeat (first | refine VIf.tt ?_ | refine VIf.ff ?_)
 refine VArith.ok (by first | omega | (simp only; omega)) (by first | omega | (simp only; omega)) ?_
 repeat (first | refine VIf.tt ?_ | refine VIf.ff ?_)
 refine VFn.mk _ (Cut_is (A := 0) (B := -1) (C := -(hi.2 + 1)) (hu4.le hM7) (valid_64 hV4) hV4 (half_x _ (by omega)).2.2.2 rfl rfl) ?_
 rintro rs M8 hM8 ⟨u6, rfl, hu6⟩
 obtain ⟨d6, k6, rfl⟩ := hu6.shape
 repeat (first | refine VIf.tt ?_ | refine VIf.ff ?_)
 refine VOwn.own ?_
 refine VCall.wk (st1 := ⟨[(4, .box 0 0), (5, .box 1 0), (8, .box 2 0), (14, .v (.slice d4 q.length k4)), (43, .v (.slice ad r.length c)), (44, .v (.int .i64 r.length)), (45, .v (.int .i64 i))], [(0, some (.box 24 [.v (.int .i64 lo.1), .v (.int .i64 lo.2)])), (1, some (.box 24 [.v (.int .i64 hi.1), .v (.int .i64 hi.2)])), (2, some (.box 79 [.row 3])), (3, some (.row 27 1 xs3.length xs3))], 4, M8, 119, ⟨m, none, _⟩⟩) (args1 := [.box 2 0, .v (.slice d6 (arC (cutA q 0 (-1) (-(hi.2 + 1)))).length k6), .v (.bool (decide (0 < (cutA q 0 (-1) (-(hi.2 + 1))).length))), .v (.int .i64 0)]) id rfl rfl (by repeat' constructor) (by repeat' constructor) (injOK_id _) rfl rfl rfl ?_
 refine add_call1 rfl rfl (by omega) ?_
 have P4 := add_pls (P3.le hM8) hu6 (cut_place hV4 0 (-1) (-(hi.2 + 1)))
 generalize hX4 : addL (decide (0 < (cutA q 0 (-1) (-(hi.2 + 1))).length)) xs3 (.slice d6 (arC (cutA q 0 (-1) (-(hi.2 + 1)))).length k6) = xs4 at *
 repeat (first | refine VIf.tt ?_ | refine VIf.ff ?_)
 refine VCode.of_vc cxOK ?_
 repeat (first | refine VIf.tt ?_ | refine VIf.ff ?_)
 refine VArith.ok (by first | omega | (simp only; omega)) (by first | omega | (simp only; omega)) ?_
 refine ⟨(i + 1, xs4, M8), ⟨⟨hM2.trans (n6.trans (hM7.trans hM8)), hlt⟩, ?_⟩, (by first | omega | (simp only; omega)), (Wk.mk' id (by repeat' constructor) (by repeat' constructor) (injOK_id _) rfl rfl rfl)⟩
 rw [hst]
 have eo : outP lo hi p = leftL [p] 1 0 (lo.1 - 1) ++ (leftL [p] (-1) 0 (-(hi.1 + 1)) ++ (leftL (midL p lo hi) 0 1 (lo.2 - 1) ++ leftL (midL p lo hi) 0 (-1) (-(hi.2 + 1)))) := rfl
 rw [eo, em, leftL_one, leftL_one, leftL_one, leftL_one]
 simp only [← List.append_assoc]
 exact P4
end Go.Proofs.YtdfhnemhkpplbaaGreatDoor
namespace Go.Proofs.YtdfhnemhkpplbaaGreatDoor
open Go Go.V Go.RowKit
theorem int_eq2 {k i : Nat} : ((k : Int) == (i : Int)) = decide (k = i) := by rw [Bool.eq_iff_iff]; simp; omega
set_option maxHeartbeats 2000000 in
theorem covered07_fn (v : Value) (l : List (List Pt)) (i : Nat) (M : Mem) (hv : RegV M v l) (hV : ∀ p ∈ l, validB p = true) (hi : i < l.length) :
  V.Fn Tryz.prog 67 [v, .int .i64 i] M fun rs _ => rs = [.bool (covB l i)] := by
 obtain ⟨ad, c, rfl, hm, hrd⟩ := hv.get
 refine Fn.of_vc cxOK Tryz.func67 rfl rfl rfl ?_
 repeat (first | refine VIf.tt ?_ | refine VIf.ff ?_)
 refine VCode.loopC (Nat × Mem) (fun (⟨k, M1⟩ : Nat × Mem) => ⟨[(0, .v (.slice ad l.length c)), (1, .v (.int .i64 i)), (5, .v (.int .i64 k))], [], 0, M1, 45, ⟨fun _ => none, none, fun _ => none⟩⟩)
  (fun (⟨k, M1⟩ : Nat × Mem) => (M.le M1 ∧ k ≤ l.length) ∧ ∀ j, j < k → covIK l i j = false) (fun (⟨k, _⟩ : Nat × Mem) => l.length - k) (0, M) ⟨⟨Mem.le_refl _, Nat.zero_le _⟩, fun j hj => absurd hj (Nat.not_lt_zero _)⟩ (Wk.mk' id (by repeat' constructor) (by repeat' constructor) (injOK_id _) rfl rfl rfl) ?_
 rintro ⟨k, M1⟩ ⟨⟨hM1, hk⟩, hz⟩ m
 repeat (first | refine VIf.tt ?_ | refine VIf.ff ?_)
 refine VCode.st cxOK ?_
 repeat (first | refine VIf.tt ?_ | refine VIf.ff ?_)
 refine VIf.mk (fun hlt => ?_) (fun hge => ?_)
 rotate_left
 ·have : k = l.length := by have := ge_of_dec hge; omega
  subst this
  repeat (first | refine VIf.tt ?_ | refine VIf.ff ?_)
  refine VFact.mk ?_ trivial
  rw [covB_no hz]
 have hlt : k < l.length := lt_of_dec hlt
 obtain ⟨a1, w1, e1, p1, q1, c1⟩ := hrd M1 hM1 k hlt
 obtain ⟨a2, w2, e2, p2, q2, c2⟩ := hrd M1 hM1 i hi
 have hVi := val_gr hV hi
 have hVk := val_gr hV hlt
 repeat (first | refine VIf.tt ?_ | refine VIf.ff ?_)
 refine VCode.seq (VCode.block ?_)
 repeat (first | refine VIf.tt ?_ | refine VIf.ff ?_)
 refine VCode.st cxOK ?_
 repeat (first | refine VIf.tt ?_ | refine VIf.ff ?_)
 refine VIf.mk (fun he => ?_) (fun he => ?_)
 ·rw [int_eq2] at he
  have he := of_decide_eq_true he
  repeat (first | refine VIf.tt ?_ | refine VIf.ff ?_)
  refine VCode.of_vc cxOK ?_
  repeat (first | refine VIf.tt ?_ | refine VIf.ff ?_)
  refine VArith.ok (by first | omega | (simp only; omega)) (by first | omega | (simp only; omega)) ?_
  refine ⟨(k + 1, M1), ⟨⟨hM1, hlt⟩, fun j hj => ?_⟩, (by first | omega | (simp only; omega)), (Wk.mk' id (by repeat' constructor) (by repeat' constructor) (injOK_id _) rfl rfl rfl)⟩
  by_cases ej : j = k
  ·subst ej
   unfold covIK
   rw [decide_eq_false (show ¬ j ≠ i from fun h => h he)]; rfl
  ·exact hz j (by omega)
 rw [int_eq2] at he
 have hne : decide (k ≠ i) = true := decide_eq_true (of_decide_eq_false he)
 repeat (first | refine VIf.tt ?_ | refine VIf.ff ?_)
 refine VCode.st cxOK ?_
 repeat (first | refine VIf.tt ?_ | refine VIf.ff ?_)
 refine VDraw.go (by kernel_rfl) ?_
 repeat (first | refine VIf.tt ?_ | refine VIf.ff ?_)
 refine VIdx.mk a2 i e2 rfl hi ?_
 repeat (first | refine VIf.tt ?_ | refine VIf.ff ?_)
 refine VRead.mk w2 c2 ?_
 repeat (first | refine VIf.tt ?_ | refine VIf.ff ?_)
 refine VIdx.mk a1 k e1 rfl hlt ?_
 repeat (first | refine VIf.tt ?_ | refine VIf.ff ?_)
 refine VRead.mk w1 c1 ?_
 repeat (first | refine VIf.tt ?_ | refine VIf.ff ?_)
 refine VFn.mk _ (Lies_fn w2 w1 (gr l i) (gr l k) M1 p2 p1 (allC_valid hVi) (by have := (len_one hVi).2; omega) (allC_valid hVk)) ?_
 rintro rs M2 hM2 rfl
 have m2 := hM1.trans hM2
 have c3 := Mem.cell_le hM2 c2
 have c4 := Mem.cell_le hM2 c1
 repeat (first | refine VIf.tt ?_ | refine VIf.ff ?_)
 refine VCode.st cxOK ?_
 repeat (first | refine VIf.tt ?_ | refine VIf.ff ?_)
 refine VDraw.go (by kernel_rfl) ?_
 repeat (first | refine VIf.tt ?_ | refine VIf.ff ?_)
 refine VIdx.mk a2 i e2 rfl hi ?_
 repeat (first | refine VIf.tt ?_ | refine VIf.ff ?_)
 refine VRead.mk w2 c3 ?_
 repeat (first | refine VIf.tt ?_ | refine VIf.ff ?_)
 refine VIdx.mk a1 k e1 rfl hlt ?_
 repeat (first | refine VIf.tt ?_ | refine VIf.ff ?_)
 refine VRead.mk w1 c4 ?_
 repeat (first | refine VIf.tt ?_ | refine VIf.ff ?_)
 refine VFn.p (Same_fn w2 w1 _ _ M2 (p2.le hM2) (p1.le hM2)) ?_
 repeat (first | refine VIf.tt ?_ | refine VIf.ff ?_)
 refine VCode.of_vc cxOK ?_
 have done : covIK l i k = false → ∃ s' : Nat × Mem, s' = (k + 1, M2) ∧ ((M.le M2 ∧ k + 1 ≤ l.length) ∧ ∀ j, j < k + 1 → covIK l i j = false) := fun hc => ⟨_, rfl, ⟨m2, hlt⟩, fun j hj => by
  by_cases ej : j = k
  ·subst ej; exact hc
  ·exact hz j (by omega)⟩
 repeat (first | refine VIf.tt ?_ | refine VIf.ff ?_)
 refine VIf.mk (fun hw => ?_) (fun hw => ?_)
 rotate_left
 ·repeat (first | refine VIf.tt ?_ | refine VIf.ff ?_)
  have hw : withinB (gr l i) (gr l k) = false := hw
  obtain ⟨_, _, hpf⟩ := done (by unfold covIK; rw [hw, Bool.and_false, Bool.false_and])
  repeat (first | refine VIf.tt ?_ | refine VIf.ff ?_)
  refine VCode.of_vc cxOK ?_
  repeat (first | refine VIf.tt ?_ | refine VIf.ff ?_)
  refine VArith.ok (by first | omega | (simp only; omega)) (by first | omega | (simp only; omega)) ?_
  exact ⟨(k + 1, M2), hpf, (by first | omega | (simp only; omega)), (Wk.mk' id (by repeat' constructor) (by repeat' constructor) (injOK_id _) rfl rfl rfl)⟩
 repeat (first | refine VIf.tt ?_ | refine VIf.ff ?_)
 have hw : withinB (gr l i) (gr l k) = true := hw
 repeat (first | refine VIf.tt ?_ | refine VIf.ff ?_)
 refine VIf.mk (fun hs => ?_) (fun hs => ?_)
 ·repeat (first | refine VIf.tt ?_ | refine VIf.ff ?_)
  have hs : (!decide (gr l i = gr l k)) = true := hs
  repeat (first | refine VIf.tt ?_ | refine VIf.ff ?_)
  refine VFact.mk ?_ trivial
  rw [covB_yes hlt (by unfold covIK; rw [hne, hw, hs, Bool.or_true]; rfl)]
 repeat (first | refine VIf.tt ?_ | refine VIf.ff ?_)
 have hs : (!decide (gr l i = gr l k)) = false := hs
 repeat (first | refine VIf.tt ?_ | refine VIf.ff ?_)
 refine VIf.mk (fun hl => ?_) (fun hl => ?_)
 ·rw [int_lt] at hl
  repeat (first | refine VIf.tt ?_ | refine VIf.ff ?_)
  refine VFact.mk ?_ trivial
  rw [covB_yes hlt (by unfold covIK; rw [hne, hw, hl]; rfl)]
 ·rw [int_lt] at hl
  obtain ⟨_, _, hpf⟩ := done (by unfold covIK; rw [hl, hs, Bool.or_false, Bool.and_false])
  repeat (first | refine VIf.tt ?_ | refine VIf.ff ?_)
  refine VCode.of_vc cxOK ?_
  repeat (first | refine VIf.tt ?_ | refine VIf.ff ?_)
  refine VArith.ok (by first | omega | (simp only; omega)) (by first | omega | (simp only; omega)) ?_
  exact ⟨(k + 1, M2), hpf, (by first | omega | (simp only; omega)), (Wk.mk' id (by repeat' constructor) (by repeat' constructor) (injOK_id _) rfl rfl rfl)⟩
def restL (r : List (List Pt)) (k : Nat) : List Pt := ((r.drop 31).take k).flatten
theorem restL_step (r : List (List Pt)) {k : Nat} (h : 31 + k < r.length) : restL r (k + 1) = restL r k ++ gr r (31 + k) := by
 have : (r.drop 31)[k]? = some (gr r (31 + k)) := by rw [List.getElem?_drop]; unfold gr; simp [h]
 unfold restL
 rw [List.take_add_one, this, List.flatten_append]
 simp
theorem restL_len {r : List (List Pt)} (hV : ∀ p ∈ r, validB p = true) : ∀ k, 31 + k ≤ r.length → (restL r k).length ≤ 64 * k
 | 0, _ => by simp [restL]
 | k + 1, h => by
  have h1 := restL_len hV k (by omega)
  have h2 := (len_one (hV _ (gr_mem (show 31 + k < r.length by omega)))).2
  rw [restL_step r (by omega), List.length_append]; omega
set_option maxRecDepth 20000 in
set_option maxHeartbeats 4000000 in
theorem Tidied07_fn (v : Value) (l : List (List Pt)) (M : Mem) (hv : RegV M v l) (hV : ∀ p ∈ l, validB p = true) (hl : l.length ≤ 100000) :
  V.Fn Tryz.prog 34 [v] M fun rs M' => ∃ u, rs = [u] ∧ RegV M' u (tidyB l) := by
 obtain ⟨ad, c, rfl, hm, hrd⟩ := hv.get
 refine Fn.of_vc cxOK Tryz.func34 rfl rfl rfl ?_
 repeat (first | refine VIf.tt ?_ | refine VIf.ff ?_)
 refine VCode.loop cxOK (Nat × List Value × Mem) (fun (⟨i, xs, M1⟩ : Nat × List Value × Mem) => ⟨[(0, .v (.slice ad l.length c)), (3, .row 0), (4, .v (.int .i64 i))], [(0, some (.row 27 1 xs.length xs))], 1, M1, 50, ⟨fun _ => none, none, fun _ => none⟩⟩)
  (fun (⟨i, xs, M1⟩ : Nat × List Value × Mem) => (M.le M1 ∧ i ≤ l.length) ∧ PlsV M1 xs (keptL l i)) (fun (⟨i, _, _⟩ : Nat × List Value × Mem) => l.length - i) (0, [], M) ⟨⟨Mem.le_refl _, Nat.zero_le _⟩, PlsV.nil _⟩ (Wk.nil 3 27 1 rfl (Wk.mk' id (by repeat' constructor) (by repeat' constructor) (injOK_id _) rfl rfl rfl)) ?_
 rintro ⟨i, xs, M1⟩ ⟨⟨hM1, hi⟩, hp⟩ m
 have hxl : xs.length ≤ i := by rw [hp.1]; exact keptL_len l i
 repeat (first | refine VIf.tt ?_ | refine VIf.ff ?_)
 refine VIf.mk (fun hlt => ?_) (fun hge => ?_)
 ·have hlt : i < l.length := lt_of_dec hlt
  repeat (first | refine VIf.tt ?_ | refine VIf.ff ?_)
  refine VFn.mk _ (covered07_fn _ l i M1 (hv.le hM1) hV hlt) ?_
  rintro rs M2 hM2 rfl
  have hs := keptL_step l i
  repeat (first | refine VIf.tt ?_ | refine VIf.ff ?_)
  refine VIf.mk (fun hc => ?_) (fun hc => ?_)
  ·have hc : covB l i = false := (Bool.not_eq_true' _).mp hc
   rw [hc] at hs
   have hV1 := val_gr hV hlt
   obtain ⟨a1, w1, e1, p1, q1, c1⟩ := hrd M2 (hM1.trans hM2) i hlt
   obtain ⟨ud, uc, rfl⟩ := p1.shape
   repeat (first | refine VIf.tt ?_ | refine VIf.ff ?_)
   refine VIdx.mk a1 i e1 rfl hlt ?_
   repeat (first | refine VIf.tt ?_ | refine VIf.ff ?_)
   refine VRead.mk _ c1 ?_
   have hb : (xs.length + 1) * 24 ≤ 140737488355328 := by omega
   repeat (first | refine VIf.tt ?_ | refine VIf.ff ?_)
   refine VFact.mk hb ?_
   repeat (first | refine VIf.tt ?_ | refine VIf.ff ?_)
   refine VArith.ok (by first | omega | (simp only; omega)) (by first | omega | (simp only; omega)) ?_
   refine ⟨(i + 1, xs ++ [.slice ud (l.getD i []).length uc], M2), ⟨⟨hM1.trans hM2, hlt⟩, ?_⟩, (by first | omega | (simp only; omega)), Wk.mk' (fun k => if k = 0 then 2 else k) (by repeat' constructor) ⟨⟨rfl, ⟨rfl, rfl, ?_, ?_⟩⟩, trivial⟩ (by simp [injOK]) rfl rfl rfl⟩
   ·rw [hs]; exact (hp.le hM2).snoc p1 q1
   ·rw [List.length_append]; rfl
   ·rfl
  ·have hc : covB l i = true := (Bool.not_eq_false' _).mp hc
   rw [hc] at hs
   repeat (first | refine VIf.tt ?_ | refine VIf.ff ?_)
   refine VArith.ok (by first | omega | (simp only; omega)) (by first | omega | (simp only; omega)) ?_
   refine ⟨(i + 1, xs, M2), ⟨⟨hM1.trans hM2, hlt⟩, ?_⟩, (by first | omega | (simp only; omega)), (Wk.mk' id (by repeat' constructor) (by repeat' constructor) (injOK_id _) rfl rfl rfl)⟩
   rw [hs]
   simp only [if_true, List.append_nil]
   exact hp.le hM2
 have : i = l.length := by have := ge_of_dec hge; omega
 subst this
 have hp : PlsV M1 xs (keptA l) := hp
 repeat (first | refine VIf.tt ?_ | refine VIf.ff ?_)
 refine VIf.mk (fun h32 => ?_) (fun h32 => ?_)
 ·have h32 : (keptA l).length ≤ 32 := by have := of_decide_eq_true h32; rw [← hp.1]; omega
  repeat (first | refine VIf.tt ?_ | refine VIf.ff ?_)
  refine VFz.mk fun x Bx M2 hM2 hx => ?_
  repeat (first | refine VIf.tt ?_ | refine VIf.ff ?_)
  refine VFact.mk ⟨x, rfl, ?_⟩ trivial
  unfold tidyB
  rw [if_pos h32]
  exact RegV.of' hx hp.1 (hp.le hM2)
 have hn : ¬ (keptA l).length ≤ 32 := by have := of_decide_eq_false h32; rw [← hp.1]; omega
 obtain ⟨hVr, hne, hP⟩ := tidy_rest hV hn
 have hVk : ∀ p ∈ keptA l, validB p = true := fun p hp => hV p (keptA_sub hp)
 have hx32 : 32 < xs.length := by rw [hp.1]; omega
 repeat (first | refine VIf.tt ?_ | refine VIf.ff ?_)
 refine VCode.loop cxOK Nat (fun k => ⟨[(3, .row 0), (6, .row 1), (7, .v (.int .i64 ((31 + k : Nat) : Int)))], [(0, some (.row 27 1 xs.length xs)), (1, some (.row 24 2 (restL (keptA l) k).length (cellsP (restL (keptA l) k))))], 2, M1, 50, ⟨fun _ => none, none, fun _ => none⟩⟩)
  (fun k => 31 + k ≤ xs.length) (fun k => xs.length - k) 0 (by omega) (Wk.nil 6 24 2 rfl (Wk.mk' id (by repeat' constructor) (by repeat' constructor) (injOK_id _) rfl rfl rfl)) ?_
 rintro k hk m2
 have hrl := restL_len hVk k (by rw [← hp.1]; exact hk)
 repeat (first | refine VIf.tt ?_ | refine VIf.ff ?_)
 refine VIf.mk (fun hlt => ?_) (fun hge => ?_)
 ·have hlt : 31 + k < xs.length := by have := of_decide_eq_true hlt; omega
  obtain ⟨x, gx, px, qx⟩ := hp.get (i := 31 + k) (by rw [← hp.1]; omega)
  have hV1 : validB (gr (keptA l) (31 + k)) = true := hVk _ (gr_mem (by rw [← hp.1]; omega))
  have h64 := (len_one hV1).2
  repeat (first | refine VIf.tt ?_ | refine VIf.ff ?_)
  refine VIdxR.mk (31 + k) rfl hlt ?_
  repeat (first | refine VIf.tt ?_ | refine VIf.ff ?_)
  refine VCells.mk [x] rfl (one_row (by simpa using gx)) ⟨x, rfl, ?_⟩
  repeat (first | refine VIf.tt ?_ | refine VIf.ff ?_)
  refine VSl.mk _ _ px ?_
  have hst := restL_step (keptA l) (k := k) (by rw [← hp.1]; exact hlt)
  have hb : ((restL (keptA l) k).length + (gr (keptA l) (31 + k)).length) * 16 ≤ 140737488355328 := by omega
  repeat (first | refine VIf.tt ?_ | refine VIf.ff ?_)
  refine VFact.mk hb ?_
  repeat (first | refine VIf.tt ?_ | refine VIf.ff ?_)
  refine VArith.ok (by first | omega | (simp only; omega)) (by first | omega | (simp only; omega)) ?_
  refine ⟨k + 1, (by show 31 + (k + 1) ≤ _; omega), (by first | omega | (simp only; omega)), Wk.mk' (fun k => if k = 1 then 2 else k) ⟨⟨rfl, rfl⟩, ⟨rfl, rfl⟩, ⟨?_, rfl⟩, trivial⟩ ⟨⟨rfl, ⟨rfl, rfl, rfl, rfl⟩⟩, ⟨rfl, ⟨rfl, rfl, ?_, ?_⟩⟩, trivial⟩ (by simp [injOK]) rfl rfl rfl⟩
  ·exact congrArg (fun n => some (SV.v (.int .i64 n))) (show ((31 + k : Nat) : Int) + 1 = ((31 + (k + 1) : Nat) : Int) by omega)
  ·rw [hst, List.length_append]
  ·rw [hst, cellsP_app]
 have hkl : k = xs.length - 31 := by have := of_decide_eq_false hge; omega
 have hE : restL (keptA l) k = ((keptA l).drop 31).flatten := by
  unfold restL
  rw [List.take_of_length_le (by rw [List.length_drop, ← hp.1]; omega)]
 rw [hE]
 repeat (first | refine VIf.tt ?_ | refine VIf.ff ?_)
 refine VBnd.mk 31 rfl (by omega) ?_
 repeat (first | refine VIf.tt ?_ | refine VIf.ff ?_)
 refine VFact.mk (show (0 + 31) * 24 ≤ 140737488355328 by decide) ?_
 repeat (first | refine VIf.tt ?_ | refine VIf.ff ?_)
 refine VFz.mk fun y By M4 hM4 hy => ?_
 have hy : Pts M4 y ((keptA l).drop 31).flatten := hy
 repeat (first | refine VIf.tt ?_ | refine VIf.ff ?_)
 refine VFn.mk _ (Oct_fn y _ M4 hy hne hP) ?_
 rintro rs M5 hM5 ⟨o, rfl, ho⟩
 obtain ⟨oa, oc, rfl⟩ := ho.shape
 repeat (first | refine VIf.tt ?_ | refine VIf.ff ?_)
 refine VFact.mk (show (0 + 31 + 1) * 24 ≤ 140737488355328 by decide) ?_
 repeat (first | refine VIf.tt ?_ | refine VIf.ff ?_)
 refine VFz.mk fun z Bz M6 hM6 hz => ?_
 repeat (first | refine VIf.tt ?_ | refine VIf.ff ?_)
 refine VFact.mk ⟨z, rfl, ?_⟩ trivial
 unfold tidyB
 rw [if_neg hn]
 refine RegV.of' hz (by rw [List.length_append, List.length_take]; simp; omega) ?_
 exact ((hp.take 31).le (hM4.trans (hM5.trans hM6))).snoc (ho.le hM6) (valid_64 (oct_spec hne hP).2.1)
end Go.Proofs.YtdfhnemhkpplbaaGreatDoor
namespace Go.Proofs.YtdfhnemhkpplbaaGreatDoor
open Go Go.V Go.RowKit
theorem leftL_take (l : List (List Pt)) (A B C : Int) {i : Nat} (h : i < l.length) : leftL (l.take (i + 1)) A B C = leftL (l.take i) A B C ++ optL (cutA (gr l i) A B C) := flatR_take [] (fun p => optL (cutA p A B C)) l h
set_option maxHeartbeats 2000000 in
theorem left07_row (v : Value) (l : List (List Pt)) (A B C : Int) (M : Mem) (hv : RegV M v l) (hV : ∀ p ∈ l, validB p = true) (hl : l.length ≤ 100000) (hH : halfB A B C = true) :
  FnRow Tryz.prog 107 [v, .agg #[.int .i64 A, .int .i64 B, .int .i64 C]] M 27 1 fun n xs M' => n = xs.length ∧ PlsV M' xs (leftL l A B C) := by
 obtain ⟨ad, c, rfl, hm, hrd⟩ := hv.get
 refine FnRow.of_vc cxOK Tryz.func107 rfl rfl rfl ?_
 repeat (first | refine VIf.tt ?_ | refine VIf.ff ?_)
 refine VCode.loop cxOK (Nat × List Value × Mem) (fun (⟨i, xs, M1⟩ : Nat × List Value × Mem) => ⟨[(0, .v (.slice ad l.length c)), (3, .box 0 0), (5, .row 1), (6, .v (.int .i64 i))], [(0, some (.box 83 [.v (.int .i64 A), .v (.int .i64 B), .v (.int .i64 C)])), (1, some (.row 27 1 xs.length xs))], 2, M1, 32, ⟨fun _ => none, none, fun _ => none⟩⟩)
  (fun (⟨i, xs, M1⟩ : Nat × List Value × Mem) => (M.le M1 ∧ i ≤ l.length) ∧ PlsV M1 xs (leftL (l.take i) A B C)) (fun (⟨i, _, _⟩ : Nat × List Value × Mem) => l.length - i) (0, [], M) ⟨⟨Mem.le_refl _, Nat.zero_le _⟩, PlsV.nil _⟩ (Wk.nil 5 27 1 rfl (Wk.mk' id (by repeat' constructor) (by repeat' constructor) (injOK_id _) rfl rfl rfl)) ?_
 rintro ⟨i, xs, M1⟩ ⟨⟨hM1, hi⟩, hp⟩ m
 have hxl : xs.length ≤ 100000 := by
  have := leftL_len (l.take i) A B C
  rw [hp.1]; rw [List.length_take] at this; omega
 repeat (first | refine VIf.tt ?_ | refine VIf.ff ?_)
 refine VIf.mk (fun hlt => ?_) (fun hge => ?_)
 rotate_left
 ·have : i = l.length := by have := ge_of_dec hge; omega
  subst this
  rw [List.take_length] at hp
  repeat (first | refine VIf.tt ?_ | refine VIf.ff ?_)
  exact VFact.mk ⟨rfl, hp⟩ trivial
 have hlt : i < l.length := lt_of_dec hlt
 obtain ⟨a1, w1, e1, p1, q1, c1⟩ := hrd M1 hM1 i hlt
 have hV1 := val_gr hV hlt
 have hst := leftL_take l A B C hlt
 have p1 : Pts M1 w1 (gr l i) := p1
 have q1 : i64P (gr l i) := q1
 generalize gr l i = p at *
 repeat (first | refine VIf.tt ?_ | refine VIf.ff ?_)
 refine VDraw.go (by kernel_rfl) ?_
 repeat (first | refine VIf.tt ?_ | refine VIf.ff ?_)
 refine VIdx.mk a1 i e1 rfl hlt ?_
 repeat (first | refine VIf.tt ?_ | refine VIf.ff ?_)
 refine VRead.mk w1 c1 ?_
 have F := Cut04_fn w1 p A B C M1 p1 q1
 rw [hV1, hH] at F
 simp only [Bool.and_self, if_true] at F
 repeat (first | refine VIf.tt ?_ | refine VIf.ff ?_)
 refine VFn.mk _ F ?_
 rintro rs M2 hM2 ⟨u, rfl, hu⟩
 obtain ⟨ud, uc, rfl⟩ := hu.shape
 repeat (first | refine VIf.tt ?_ | refine VIf.ff ?_)
 refine VIf.mk (fun hc => ?_) (fun hc => ?_)
 ·have hne : cutA p A B C ≠ [] := fun e => by rw [e] at hc; exact absurd hc (by decide)
  have hb : (xs.length + 1) * 24 ≤ 140737488355328 := by omega
  repeat (first | refine VIf.tt ?_ | refine VIf.ff ?_)
  refine VFact.mk hb ?_
  repeat (first | refine VIf.tt ?_ | refine VIf.ff ?_)
  refine VArith.ok (by first | omega | (simp only; omega)) (by first | omega | (simp only; omega)) ?_
  refine ⟨(i + 1, xs ++ [.slice ud (arC (cutA p A B C)).length uc], M2), ⟨⟨hM1.trans hM2, hlt⟩, ?_⟩, (by first | omega | (simp only; omega)), Wk.mk' (fun k => if k = 1 then 3 else k) (by repeat' constructor) ⟨⟨rfl, by repeat' constructor⟩, ⟨rfl, ⟨rfl, rfl, ?_, ?_⟩⟩, trivial⟩ (by simp [injOK]) rfl rfl rfl⟩
  ·rw [hst]
   unfold optL
   rw [if_neg hne]
   exact (hp.le hM2).snoc hu (valid_64 (arC_valid hne (cut_place hV1 A B C)))
  ·rw [List.length_append]; rfl
  ·rfl
 ·have he : cutA p A B C = [] := List.eq_nil_of_length_eq_zero (by have := of_decide_eq_false hc; omega)
  repeat (first | refine VIf.tt ?_ | refine VIf.ff ?_)
  refine VArith.ok (by first | omega | (simp only; omega)) (by first | omega | (simp only; omega)) ?_
  refine ⟨(i + 1, xs, M2), ⟨⟨hM1.trans hM2, hlt⟩, ?_⟩, (by first | omega | (simp only; omega)), (Wk.mk' id (by repeat' constructor) (by repeat' constructor) (injOK_id _) rfl rfl rfl)⟩
  rw [hst, he]
  unfold optL
  simp only [if_true, List.append_nil]
  exact hp.le hM2
theorem left07_fn (v : Value) (l : List (List Pt)) (A B C : Int) (M : Mem) (hv : RegV M v l) (hV : ∀ p ∈ l, validB p = true) (hl : l.length ≤ 100000) (hH : halfB A B C = true) :
  V.Fn Tryz.prog 107 [v, .agg #[.int .i64 A, .int .i64 B, .int .i64 C]] M fun rs M' => ∃ u, rs = [u] ∧ RegV M' u (leftL l A B C) :=
 (FnRow.fn (left07_row v l A B C M hv hV hl hH)).mono fun rs M' _ ⟨u, n, xs, M1, e1, h1, h2, h3, h4⟩ => ⟨u, e1, RegV.of' h2 (by rw [h3, h4.1]) (h4.le h1)⟩
theorem PlsV.app {M : Mem} {xs ys : List Value} {qs rs : List (List Pt)} (h : PlsV M xs qs) (k : PlsV M ys rs) : PlsV M (xs ++ ys) (qs ++ rs) := by
 refine ⟨by simp [h.1, k.1], fun i y p h1 h2 => ?_⟩
 rcases Nat.lt_or_ge i xs.length with hi | hi
 ·rw [List.getElem?_append_left hi] at h1
  rw [List.getElem?_append_left (by rw [← h.1]; exact hi)] at h2
  exact h.2 i y p h1 h2
 ·rw [List.getElem?_append_right hi] at h1
  rw [List.getElem?_append_right (by rw [← h.1]; exact hi), ← h.1] at h2
  exact k.2 _ y p h1 h2
set_option maxRecDepth 20000 in
set_option maxHeartbeats 4000000 in
theorem pieces07_fn (w : Value) (p : List Pt) (lo hi : Pt) (M : Mem) (hw : Pts M w p) (hV : validB p = true) (h2 : placeB lo = true) (h3 : placeB hi = true) :
  V.Fn Tryz.prog 69 [w, ptv lo, ptv hi] M fun rs M' => ∃ u, rs = [u] ∧ RegV M' u (outP lo hi p) := by
 obtain ⟨wd, wc, rfl⟩ := hw.shape
 have cl := place_C h2
 have ch := place_C h3
 unfold isC at cl ch
 have h1 : ∀ q ∈ [p], validB q = true := fun q hq => by rw [List.mem_singleton.1 hq]; exact hV
 have L1 := leftL_len [p] 1 0 (lo.1 - 1)
 have L2 := leftL_len [p] (-1) 0 (-(hi.1 + 1))
 have L3 := leftL_len [p] (-1) 0 (-lo.1)
 have L4 := leftL_len (leftL [p] (-1) 0 (-lo.1)) 1 0 hi.1
 have L5 := leftL_len (midL p lo hi) 0 1 (lo.2 - 1)
 have L6 := leftL_len (midL p lo hi) 0 (-1) (-(hi.2 + 1))
 have hVm : ∀ q ∈ leftL [p] (-1) 0 (-lo.1), validB q = true := leftL_valid h1 _ _ _
 have hVn : ∀ q ∈ midL p lo hi, validB q = true := leftL_valid hVm _ _ _
 have em : leftL (leftL [p] (-1) 0 (-lo.1)) 1 0 hi.1 = midL p lo hi := rfl
 have g1 : -hi.1 - 1 = -(hi.1 + 1) := by omega
 have g2 : -hi.2 - 1 = -(hi.2 + 1) := by omega
 simp only [List.length_cons, List.length_nil] at L1 L2 L3 L4
 rw [em] at L4
 refine Fn.of_vcode cxIOK Tryz.func69 rfl rfl rfl ?_
 repeat (first | refine VIf.tt ?_ | refine VIf.ff ?_)
 refine VCode.st cxIOK ?_
 repeat (first | refine VIf.tt ?_ | refine VIf.ff ?_)
 refine VCode.st cxIOK ?_
 repeat (first | refine VIf.tt ?_ | refine VIf.ff ?_)
 refine VCode.frz [7] ?_
 repeat (first | refine VIf.tt ?_ | refine VIf.ff ?_)
 refine VFz.mk fun l0 B0 M1 hM1 hl0 => ?_
 have hl0 : RegV M1 l0 [p] := RegV.of hl0 ((PlsV.nil M1).snoc (hw.le hM1) (valid_64 hV))
 obtain ⟨ld, lc, rfl⟩ := hl0.shape
 repeat (first | refine VIf.tt ?_ | refine VIf.ff ?_)
 refine VCode.st cxIOK ?_
 repeat (first | refine VIf.tt ?_ | refine VIf.ff ?_)
 refine VArith.ok (by first | omega | (simp only; omega)) (by first | omega | (simp only; omega)) ?_
 repeat (first | refine VIf.tt ?_ | refine VIf.ff ?_)
 refine VOwn.own ?_
 refine VCall.ofRowM (left07_row _ [p] 1 0 (lo.1 - 1) M1 hl0 h1 (by simp) (half_x _ (by omega)).1) rfl ?_
 rintro n1 xs1 M2 hM2 ⟨rfl, P1⟩
 repeat (first | refine VIf.tt ?_ | refine VIf.ff ?_)
 refine VCode.st cxIOK ?_
 repeat (first | refine VIf.tt ?_ | refine VIf.ff ?_)
 refine VArith.ok (by first | omega | (simp only; omega)) (by first | omega | (simp only; omega)) ?_
 repeat (first | refine VIf.tt ?_ | refine VIf.ff ?_)
 refine VArith.ok (by first | omega | (simp only; omega)) (by first | omega | (simp only; omega)) ?_
 repeat (first | refine VIf.tt ?_ | refine VIf.ff ?_)
 refine VOwn.own ?_
 rw [g1]
 refine VCall.ofRowM (left07_row _ [p] (-1) 0 (-(hi.1 + 1)) M2 (hl0.le hM2) h1 (by simp) (half_x _ (by omega)).2.1) rfl ?_
 rintro n2 xs2 M3 hM3 ⟨rfl, P2⟩
 have l1 := P1.1
 have l2 := P2.1
 repeat (first | refine VIf.tt ?_ | refine VIf.ff ?_)
 refine VFact.mk (show (xs1.length + xs2.length) * 24 ≤ 140737488355328 by omega) ?_
 repeat (first | refine VIf.tt ?_ | refine VIf.ff ?_)
 refine VCode.st cxIOK ?_
 repeat (first | refine VIf.tt ?_ | refine VIf.ff ?_)
 refine VDraw.go (by kernel_rfl) ?_
 repeat (first | refine VIf.tt ?_ | refine VIf.ff ?_)
 refine VArith.ok (by first | omega | (simp only; omega)) (by first | omega | (simp only; omega)) ?_
 repeat (first | refine VIf.tt ?_ | refine VIf.ff ?_)
 refine VFn.mk _ (left07_fn _ [p] (-1) 0 (-lo.1) M3 (hl0.le (hM2.trans hM3)) h1 (by simp) (half_x _ (by omega)).2.1) ?_
 rintro rs M4 hM4 ⟨u3, rfl, hu3⟩
 repeat (first | refine VIf.tt ?_ | refine VIf.ff ?_)
 refine VOwn.frz ?_
 repeat (first | refine VIf.tt ?_ | refine VIf.ff ?_)
 refine VFn.mk _ (left07_fn _ _ 1 0 hi.1 M4 hu3 hVm (by omega) (half_x _ (by omega)).1) ?_
 rintro rs M5 hM5 ⟨u4, rfl, hu4⟩
 rw [em] at hu4
 repeat (first | refine VIf.tt ?_ | refine VIf.ff ?_)
 refine VCode.st cxIOK ?_
 repeat (first | refine VIf.tt ?_ | refine VIf.ff ?_)
 refine VArith.ok (by first | omega | (simp only; omega)) (by first | omega | (simp only; omega)) ?_
 repeat (first | refine VIf.tt ?_ | refine VIf.ff ?_)
 refine VOwn.own ?_
 refine VCall.ofRowM (left07_row _ _ 0 1 (lo.2 - 1) M5 hu4 hVn (by omega) (half_x _ (by omega)).2.2.1) rfl ?_
 rintro n3 xs3 M6 hM6 ⟨rfl, P3⟩
 have l3 := P3.1
 repeat (first | refine VIf.tt ?_ | refine VIf.ff ?_)
 refine VFact.mk (show (xs1.length + xs2.length + xs3.length) * 24 ≤ 140737488355328 by omega) ?_
 repeat (first | refine VIf.tt ?_ | refine VIf.ff ?_)
 refine VCode.of_vc cxIOK ?_
 repeat (first | refine VIf.tt ?_ | refine VIf.ff ?_)
 refine VArith.ok (by first | omega | (simp only; omega)) (by first | omega | (simp only; omega)) ?_
 repeat (first | refine VIf.tt ?_ | refine VIf.ff ?_)
 refine VArith.ok (by first | omega | (simp only; omega)) (by first | omega | (simp only; omega)) ?_
 repeat (first | refine VIf.tt ?_ | refine VIf.ff ?_)
 refine VOwn.own ?_
 rw [g2]
 refine VCall.ofRowM (left07_row _ _ 0 (-1) (-(hi.2 + 1)) M6 (hu4.le hM6) hVn (by omega) (half_x _ (by omega)).2.2.2) rfl ?_
 rintro n4 xs4 M7 hM7 ⟨rfl, P4⟩
 have l4 := P4.1
 repeat (first | refine VIf.tt ?_ | refine VIf.ff ?_)
 refine VFact.mk (show (xs1.length + xs2.length + xs3.length + xs4.length) * 24 ≤ 140737488355328 by omega) ?_
 repeat (first | refine VIf.tt ?_ | refine VIf.ff ?_)
 refine VFz.mk fun x Bx M8 hM8 hx => ?_
 repeat (first | refine VIf.tt ?_ | refine VIf.ff ?_)
 refine VFact.mk ⟨x, rfl, ?_⟩ trivial
 have PP := (((P1.le (hM3.trans (hM4.trans (hM5.trans (hM6.trans hM7))))).app (P2.le (hM4.trans (hM5.trans (hM6.trans hM7))))).app (P3.le hM7)).app P4
 have eo : outP lo hi p = leftL [p] 1 0 (lo.1 - 1) ++ leftL [p] (-1) 0 (-(hi.1 + 1)) ++ leftL (midL p lo hi) 0 1 (lo.2 - 1) ++ leftL (midL p lo hi) 0 (-1) (-(hi.2 + 1)) := by
  unfold outP; simp only [List.append_assoc]
 rw [eo]
 refine RegV.of' hx ?_ (PP.le hM8)
 simp only [List.length_append]
 omega
set_option maxHeartbeats 2000000 in
theorem Without07_fn (v : Value) (r : List (List Pt)) (lo hi : Pt) (M : Mem) (hv : RegV M v r) (hall : ∀ p ∈ r, validB p = true) (hl : r.length ≤ 1000) (h2 : placeB lo = true) (h3 : placeB hi = true) :
  V.Fn Tryz.prog 35 [v, ptv lo, ptv hi] M fun rs M' => ∃ u, rs = [u] ∧ RegV M' u (withoutB r lo hi) := by
 obtain ⟨ad, c, rfl, hm, hrd⟩ := hv.get
 have ql := fun i => flatMap_len (outP lo hi) 4 (fun p => outP_len p lo hi) (r.take i)
 refine Fn.of_vc cxOK Tryz.func35 rfl rfl rfl ?_
 repeat (first | refine VIf.tt ?_ | refine VIf.ff ?_)
 refine VCode.loop cxOK (Nat × List Value × Mem) (fun (⟨i, xs, M2⟩ : Nat × List Value × Mem) => ⟨[(0, .v (.slice ad r.length c)), (4, .box 0 0), (5, .box 1 0), (7, .row 2), (8, .v (.int .i64 i))], [(0, some (.box 24 [.v (.int .i64 lo.1), .v (.int .i64 lo.2)])), (1, some (.box 24 [.v (.int .i64 hi.1), .v (.int .i64 hi.2)])), (2, some (.row 27 1 xs.length xs))], 3, M2, 26, ⟨fun _ => none, none, fun _ => none⟩⟩)
  (fun (⟨i, xs, M2⟩ : Nat × List Value × Mem) => (M.le M2 ∧ i ≤ r.length) ∧ PlsV M2 xs ((r.take i).flatMap (outP lo hi))) (fun (⟨i, _, _⟩ : Nat × List Value × Mem) => r.length - i) (0, [], M) ⟨⟨Mem.le_refl _, Nat.zero_le _⟩, PlsV.nil _⟩ (Wk.nil 7 27 1 rfl (Wk.mk' id (by repeat' constructor) (by repeat' constructor) (injOK_id _) rfl rfl rfl)) ?_
 rintro ⟨i, xs, M2⟩ ⟨⟨hM2, hi'⟩, hp⟩ m
 have hxl : xs.length ≤ 4000 := by have := ql i; rw [hp.1]; rw [List.length_take] at this; omega
 repeat (first | refine VIf.tt ?_ | refine VIf.ff ?_)
 refine VIf.mk (fun hlt => ?_) (fun hge => ?_)
 ·have hlt : i < r.length := lt_of_dec hlt
  obtain ⟨a1, w, e1, p1, q1, c1⟩ := hrd M2 hM2 i hlt
  have hV : validB (gr r i) = true := val_gr hall hlt
  have p1 : Pts M2 w (gr r i) := p1
  have hst : (r.take (i + 1)).flatMap (outP lo hi) = (r.take i).flatMap (outP lo hi) ++ outP lo hi (gr r i) := flatR_take [] (outP lo hi) r hlt
  have ol := outP_len (gr r i) lo hi
  repeat (first | refine VIf.tt ?_ | refine VIf.ff ?_)
  refine VDraw.go (by kernel_rfl) ?_
  repeat (first | refine VIf.tt ?_ | refine VIf.ff ?_)
  refine VIdx.mk a1 i e1 rfl hlt ?_
  repeat (first | refine VIf.tt ?_ | refine VIf.ff ?_)
  refine VRead.mk w c1 ?_
  repeat (first | refine VIf.tt ?_ | refine VIf.ff ?_)
  refine VFn.mk _ (pieces07_fn w (gr r i) lo hi M2 p1 hV h2 h3) ?_
  rintro rs M3 hM3 ⟨u, rfl, hu⟩
  obtain ⟨ys, s1, s2⟩ := hu.pls
  repeat (first | refine VIf.tt ?_ | refine VIf.ff ?_)
  refine VSl.mk _ ys s1 ?_
  repeat (first | refine VIf.tt ?_ | refine VIf.ff ?_)
  refine VFact.mk (show (xs.length + (outP lo hi (gr r i)).length) * 24 ≤ 140737488355328 by omega) ?_
  repeat (first | refine VIf.tt ?_ | refine VIf.ff ?_)
  refine VArith.ok (by first | omega | (simp only; omega)) (by first | omega | (simp only; omega)) ?_
  refine ⟨(i + 1, xs ++ ys, M3), ⟨⟨hM2.trans hM3, hlt⟩, ?_⟩, (by first | omega | (simp only; omega)), Wk.mk' (fun k => if k = 2 then 3 else k) (by repeat' constructor) ⟨⟨rfl, by repeat' constructor⟩, ⟨rfl, by repeat' constructor⟩, ⟨rfl, ⟨rfl, rfl, ?_, ?_⟩⟩, trivial⟩ (by simp [injOK]) rfl rfl rfl⟩
  ·rw [hst]; exact (hp.le hM3).app s2
  ·rw [List.length_append, s2.1]
  ·rfl
 ·have : i = r.length := by have := ge_of_dec hge; omega
  subst this
  rw [List.take_length] at hp
  have ql' := ql r.length
  rw [List.take_length] at ql'
  repeat (first | refine VIf.tt ?_ | refine VIf.ff ?_)
  refine VFz.mk fun x Bx M3 hM3 hx => ?_
  have hx2 := RegV.of' hx hp.1 (hp.le hM3)
  repeat (first | refine VIf.tt ?_ | refine VIf.ff ?_)
  refine VFn.mk _ (Tidied07_fn x _ M3 hx2 (fun p hp => ?_) (by omega)) ?_
  ·obtain ⟨q, hq, hp⟩ := List.mem_flatMap.1 hp
   exact outP_valid (hall q hq) lo hi p hp
  rintro rs M4 hM4 ⟨u, rfl, hu⟩
  repeat (first | refine VIf.tt ?_ | refine VIf.ff ?_)
  exact VFact.mk ⟨u, rfl, hu⟩ trivial
theorem In07_fn (v : Value) (r : List (List Pt)) (x : Pt) (M : Mem) (hv : RegV M v r) (hall : ∀ p ∈ r, validB p = true) (hx : placeB x = true) : FnP Tryz.prog 23 [v, ptv x] M [.bool (regB r x)] := by
 obtain ⟨ad, c, rfl, hm, hrd⟩ := hv.get
 refine Fn.of_vc cxOK Tryz.func23 rfl rfl rfl ?_
 repeat (first | refine VIf.tt ?_ | refine VIf.ff ?_)
 refine VCode.loop cxOK Nat (fun i => ⟨[(0, .v (.slice ad r.length c)), (3, .box 0 0), (5, .v (.int .i64 i))], [(0, some (.box 24 [.v (.int .i64 x.1), .v (.int .i64 x.2)]))], 1, M, 20, ⟨fun _ => none, none, fun _ => none⟩⟩)
  (fun i => i ≤ r.length ∧ ∀ j, j < i → hasB (gr r j) x = false) (fun i => r.length - i) 0 ⟨Nat.zero_le _, fun j hj => absurd hj (Nat.not_lt_zero _)⟩ (Wk.mk' id (by repeat' constructor) (by repeat' constructor) (injOK_id _) rfl rfl rfl) ?_
 rintro i ⟨hi, hz⟩ m
 repeat (first | refine VIf.tt ?_ | refine VIf.ff ?_)
 refine VIf.mk (fun hlt => ?_) (fun hge => ?_)
 ·have hlt : i < r.length := lt_of_dec hlt
  obtain ⟨a1, w, e1, p1, q1, c1⟩ := hrd M (Mem.le_refl _) i hlt
  have p1 : Pts M w (gr r i) := p1
  repeat (first | refine VIf.tt ?_ | refine VIf.ff ?_)
  refine VDraw.go (by kernel_rfl) ?_
  repeat (first | refine VIf.tt ?_ | refine VIf.ff ?_)
  refine VIdx.mk a1 i e1 rfl hlt ?_
  repeat (first | refine VIf.tt ?_ | refine VIf.ff ?_)
  refine VRead.mk w c1 ?_
  repeat (first | refine VIf.tt ?_ | refine VIf.ff ?_)
  refine VFn.p (Inside_is (x := x) p1 (val_gr hall hlt) hx rfl) ?_
  repeat (first | refine VIf.tt ?_ | refine VIf.ff ?_)
  refine VIf.mk (fun hc => ?_) (fun hc => ?_)
  ·repeat (first | refine VIf.tt ?_ | refine VIf.ff ?_)
   refine VFact.mk ⟨?_, rfl⟩ trivial
   have : regB r x = true := regB_iff.2 ⟨_, gr_mem hlt, hc⟩
   rw [this]
  ·repeat (first | refine VIf.tt ?_ | refine VIf.ff ?_)
   refine VArith.ok (by first | omega | (simp only; omega)) (by first | omega | (simp only; omega)) ?_
   refine ⟨i + 1, ⟨hlt, fun j hj => ?_⟩, (by first | omega | (simp only; omega)), (Wk.mk' id (by repeat' constructor) (by repeat' constructor) (injOK_id _) rfl rfl rfl)⟩
   by_cases e : j = i
   ·subst e; exact hc
   ·exact hz j (by omega)
 ·have : i = r.length := by have := ge_of_dec hge; omega
  subst this
  repeat (first | refine VIf.tt ?_ | refine VIf.ff ?_)
  refine VFact.mk ⟨?_, rfl⟩ trivial
  have : regB r x = false := by
   cases hb : regB r x with
   | false => rfl
   | true =>
    obtain ⟨p, hp, hx⟩ := regB_iff.1 hb
    obtain ⟨j, hj, rfl⟩ := mem_gr hp
    rw [hz j hj] at hx; cases hx
  rw [this]
theorem Same07_fn (v w : Value) (a b : List (List Pt)) (M : Mem) (hv : RegV M v a) (hw : RegV M w b) : FnP Tryz.prog 14 [v, w] M [.bool (decide (a = b))] := by
 obtain ⟨ad, c, rfl, hm, hrd⟩ := hv.get
 obtain ⟨bd, d, rfl, hm', hrd'⟩ := hw.get
 refine Fn.of_vc cxOK Tryz.func14 rfl rfl rfl ?_
 repeat (first | refine VIf.tt ?_ | refine VIf.ff ?_)
 refine VIf.mk (fun h => ?_) (fun h => ?_)
 ·have h := ne_of_bne h
  repeat (first | refine VIf.tt ?_ | refine VIf.ff ?_)
  refine VFact.mk ⟨?_, rfl⟩ trivial
  rw [decide_eq_false (fun e => h (by rw [e]))]
 have hl : a.length = b.length := eq_of_bne h
 repeat (first | refine VIf.tt ?_ | refine VIf.ff ?_)
 refine VCode.loop cxOK Nat (fun i => ⟨[(0, .v (.slice ad a.length c)), (1, .v (.slice bd b.length d)), (5, .v (.int .i64 i))], [], 0, M, 29, ⟨fun _ => none, none, fun _ => none⟩⟩)
  (fun i => i ≤ a.length ∧ ∀ j, j < i → gr a j = gr b j) (fun i => a.length - i) 0 ⟨Nat.zero_le _, fun j hj => by omega⟩ (Wk.mk' id (by repeat' constructor) (by repeat' constructor) (injOK_id _) rfl rfl rfl) ?_
 rintro i ⟨hi, hz⟩ m
 repeat (first | refine VIf.tt ?_ | refine VIf.ff ?_)
 refine VIf.mk (fun hlt => ?_) (fun hge => ?_)
 ·have hlt : i < a.length := lt_of_dec hlt
  obtain ⟨a1, w1, e1, p1, q1, c1⟩ := hrd M (Mem.le_refl _) i hlt
  obtain ⟨a2, w2, e2, p2, q2, c2⟩ := hrd' M (Mem.le_refl _) i (by omega)
  repeat (first | refine VIf.tt ?_ | refine VIf.ff ?_)
  refine VDraw.go (by kernel_rfl) ?_
  repeat (first | refine VIf.tt ?_ | refine VIf.ff ?_)
  refine VIdx.mk a1 i e1 rfl hlt ?_
  repeat (first | refine VIf.tt ?_ | refine VIf.ff ?_)
  refine VRead.mk w1 c1 ?_
  repeat (first | refine VIf.tt ?_ | refine VIf.ff ?_)
  refine VIdx.mk a2 i e2 rfl (by omega) ?_
  repeat (first | refine VIf.tt ?_ | refine VIf.ff ?_)
  refine VRead.mk w2 c2 ?_
  repeat (first | refine VIf.tt ?_ | refine VIf.ff ?_)
  refine VFn.p (Same_fn w1 w2 (gr a i) (gr b i) M p1 p2) ?_
  repeat (first | refine VIf.tt ?_ | refine VIf.ff ?_)
  refine VIf.mk (fun hd => ?_) (fun hd => ?_)
  ·repeat (first | refine VIf.tt ?_ | refine VIf.ff ?_)
   refine VFact.mk ⟨?_, rfl⟩ trivial
   have hd := of_decide_eq_false ((Bool.not_eq_true' _).mp hd)
   rw [decide_eq_false (fun e => hd (by rw [e]))]
  ·have hd := of_decide_eq_true ((Bool.not_eq_false' _).mp hd)
   repeat (first | refine VIf.tt ?_ | refine VIf.ff ?_)
   refine VArith.ok (by first | omega | (simp only; omega)) (by first | omega | (simp only; omega)) ?_
   refine ⟨i + 1, ⟨hlt, fun j hj => ?_⟩, (by first | omega | (simp only; omega)), (Wk.mk' id (by repeat' constructor) (by repeat' constructor) (injOK_id _) rfl rfl rfl)⟩
   by_cases e : j = i
   ·subst e; exact hd
   ·exact hz j (by omega)
 ·have : i = a.length := by have := ge_of_dec hge; omega
  subst this
  repeat (first | refine VIf.tt ?_ | refine VIf.ff ?_)
  refine VFact.mk ⟨?_, rfl⟩ trivial
  have : a = b := by
   refine List.ext_getElem hl fun i h1 h2 => ?_
   have := hz i h1
   simpa [gr, h1, h2] using this
  rw [decide_eq_true this]
end Go.Proofs.YtdfhnemhkpplbaaGreatDoor
namespace Go.Proofs.YtdfhnemhkpplbaaGreatDoor
open Go Go.V Go.RowKit
theorem Apart04_fn (v w : Value) (ps qs : List Pt) (M : Mem) (hv : Pts M v ps) (hw : Pts M w qs) (hp : validB ps = true) (hq : validB qs = true) (hl2 : qs.length ≤ 8) :
  V.Fn Tryz.prog 70 [v, w] M fun rs M' => rs = [.bool (decide ((sharA ps qs).length = 0)), .int .i64 0] := by
 have h1 := fun M' (hM : M.le M') => ValidR_is (hv.le hM) (mem_64 (valid_mem hp)) hp
 have h2 := fun M' (hM : M.le M') => ValidR_is (hw.le hM) (mem_64 (valid_mem hq)) hq
 have h3 := both04_fn v w ps qs M hv hw hp hq hl2
 obtain ⟨ad, c, rfl⟩ := hv.shape
 obtain ⟨bd, k, rfl⟩ := hw.shape
 refine Fn.of_vc cxOK Tryz.func70 rfl rfl rfl ?_
 repeat (first | refine VIf.tt ?_ | refine VIf.ff ?_)
 refine VFn.p (h1 M (Mem.le_refl _)) ?_
 repeat (first | refine VIf.tt ?_ | refine VIf.ff ?_)
 refine VFn.p (h2 M (Mem.le_refl _)) ?_
 repeat (first | refine VIf.tt ?_ | refine VIf.ff ?_)
 refine VFn.mk _ h3 ?_
 rintro rs M1 hM1 ⟨u, rfl, hu⟩
 obtain ⟨ud, uc, rfl⟩ := hu.shape
 repeat (first | refine VIf.tt ?_ | refine VIf.ff ?_)
 refine VFact.mk ?_ trivial
 rw [bothR_len]
 congr 2
 rw [Bool.eq_iff_iff, beq_iff_eq, decide_eq_true_iff]
 omega
def halV (A B C : Int) : Value := .agg #[.int .i64 A, .int .i64 B, .int .i64 C]
def beyV (a b : Pt) : Value := halV (beyA a b) (beyB a b) (beyC a b)
def beyS (q : List Pt) : List (List Value) := (List.range q.length).map fun i => [beyV (gp q i) (nx q i)]
theorem mulP {u w : Int} (h1 : -1000000 ≤ u ∧ u ≤ 1000000) (h2 : -500000 ≤ w ∧ w ≤ 500000) : -500000000000 ≤ u * w ∧ u * w ≤ 500000000000 := by
 have a1 := Int.mul_nonneg (show 0 ≤ u + 1000000 by omega) (show 0 ≤ w + 500000 by omega)
 have a2 := Int.mul_nonneg (show 0 ≤ 1000000 - u by omega) (show 0 ≤ 500000 - w by omega)
 have a3 := Int.mul_nonneg (show 0 ≤ u + 1000000 by omega) (show 0 ≤ 500000 - w by omega)
 have a4 := Int.mul_nonneg (show 0 ≤ 1000000 - u by omega) (show 0 ≤ w + 500000 by omega)
 have e1 : (u + 1000000) * (w + 500000) = u * w + 500000 * u + 1000000 * w + 500000000000 := by grind
 have e2 : (1000000 - u) * (500000 - w) = u * w - 500000 * u - 1000000 * w + 500000000000 := by grind
 have e3 : (u + 1000000) * (500000 - w) = -(u * w) + 500000 * u - 1000000 * w + 500000000000 := by grind
 have e4 : (1000000 - u) * (w + 500000) = -(u * w) - 500000 * u + 1000000 * w + 500000000000 := by grind
 omega
theorem beyond_fn (a b : Pt) (M : Mem) (ha : placeB a = true) (hb : placeB b = true) : FnP Tryz.prog 103 [ptv a, ptv b] M [beyV a b] := by
 have ha := place_box.1 ha
 have hb := place_box.1 hb
 have m1 := mulP (u := b.1 - a.1) (w := a.2) (by omega) (by omega)
 have m2 := mulP (u := b.2 - a.2) (w := a.1) (by omega) (by omega)
 refine Fn.of_vc cxOK Tryz.func103 rfl rfl rfl ?_
 repeat (first | refine VIf.tt ?_ | refine VIf.ff ?_)
 refine VDraw.go (by kernel_rfl) ?_
 repeat (first | refine VIf.tt ?_ | refine VIf.ff ?_)
 refine VArith.ok (by first | omega | (simp only; omega)) (by first | omega | (simp only; omega)) ?_
 repeat (first | refine VIf.tt ?_ | refine VIf.ff ?_)
 refine VArith.ok (by first | omega | (simp only; omega)) (by first | omega | (simp only; omega)) ?_
 repeat (first | refine VIf.tt ?_ | refine VIf.ff ?_)
 refine VArith.ok (by first | omega | (simp only; omega)) (by first | omega | (simp only; omega)) ?_
 repeat (first | refine VIf.tt ?_ | refine VIf.ff ?_)
 refine VArith.ok (by first | omega | (simp only; omega)) (by first | omega | (simp only; omega)) ?_
 repeat (first | refine VIf.tt ?_ | refine VIf.ff ?_)
 refine VArith.ok (by first | omega | (simp only; omega)) (by first | omega | (simp only; omega)) ?_
 repeat (first | refine VIf.tt ?_ | refine VIf.ff ?_)
 refine VArith.ok (by first | omega | (simp only; omega)) (by first | omega | (simp only; omega)) ?_
 repeat (first | refine VIf.tt ?_ | refine VIf.ff ?_)
 refine VArith.ok (by first | omega | (simp only; omega)) (by first | omega | (simp only; omega)) ?_
 repeat (first | refine VIf.tt ?_ | refine VIf.ff ?_)
 exact VFact.mk ⟨rfl, rfl⟩ trivial
theorem sidesA_fn (v : Value) {a : Option Addr} {n k : Nat} (hv : v = .slice a n k) (M : Mem) : V.Fn Tryz.prog 66 [v] M fun rs M' => ∃ B1 B2, rs = [.func (.func 104) #[] #[.pointer (some ⟨B1, 0, none⟩), .pointer (some ⟨B2, 0, none⟩)]] ∧ M' B1 = some (.cells #[v] 27 (0, 0)) ∧ M' B2 = some (.cells #[.func (.func 103) #[] #[]] 117 (0, 0)) := by
 subst hv
 refine Fn.of_vc cxOK Tryz.func66 rfl rfl rfl ?_
 repeat (first | refine VIf.tt ?_ | refine VIf.ff ?_)
 refine VFzB.mk fun x1 B1 M1 hM1 h1 => ?_
 repeat (first | refine VIf.tt ?_ | refine VIf.ff ?_)
 refine VFzB.mk fun x2 B2 M2 hM2 h2 => ?_
 repeat (first | refine VIf.tt ?_ | refine VIf.ff ?_)
 exact VFact.mk ⟨B1, B2, rfl, hM2 _ _ h1, h2⟩ trivial
set_option maxRecDepth 20000 in
set_option maxHeartbeats 4000000 in
theorem sidesA_iter (M : Mem) (B1 B2 : Nat) (v : Value) (ps : List Pt) (hB1 : M B1 = some (.cells #[v] 27 (0, 0))) (hB2 : M B2 = some (.cells #[.func (.func 103) #[] #[]] 117 (0, 0))) (hv : Pts M v ps) (hP : ∀ y ∈ ps, placeB y = true) :
  Iter Tryz.prog 104 #[.pointer (some ⟨B1, 0, none⟩), .pointer (some ⟨B2, 0, none⟩)] M (beyS ps) := by
 obtain ⟨ad, c, rfl⟩ := hv.shape
 obtain ⟨_, hm, hrd⟩ := hv.cellsOf
 unfold maxLen at hm
 refine Iter.of_vc cxOK Tryz.func104 rfl rfl rfl rfl fun l => ?_
 repeat (first | refine VIf.tt ?_ | refine VIf.ff ?_)
 refine VRead.mk _ (box1 hB1) ?_
 repeat (first | refine VIf.tt ?_ | refine VIf.ff ?_)
 refine VCode.loopG cxOK (fun m => m = fun _ => none) rfl Nat
  (fun i => ⟨[(0, .v (.func (.yield l) #[] #[])), (1, .v (.pointer (some ⟨B1, 0, none⟩))), (2, .v (.pointer (some ⟨B2, 0, none⟩))), (6, .v (.slice ad ps.length c)), (7, .v (.int .i64 ps.length)), (8, .v (.int .i64 i))], [], 0, M, 28, ⟨fun _ => none, some (l, (beyS ps).drop i), fun _ => none⟩⟩)
  (fun i => i ≤ ps.length) (fun i => ps.length - i) 0 (Nat.zero_le _) ?_ ?_
 ·exact Wk.mk' id ⟨⟨rfl, rfl⟩, ⟨rfl, rfl⟩, ⟨rfl, rfl⟩, ⟨rfl, rfl⟩, ⟨rfl, rfl⟩, ⟨rfl, rfl⟩, trivial⟩ trivial trivial rfl rfl rfl
 rintro i hi m rfl
 repeat (first | refine VIf.tt ?_ | refine VIf.ff ?_)
 refine VIf.mk (fun hlt => ?_) (fun hge => ?_)
 ·have hlt := lt_of_dec hlt
  obtain ⟨ad', rfl, hp1⟩ := hrd M (Mem.le_refl _) i hlt
  have hmod : (i + 1) % ps.length < ps.length := Nat.mod_lt _ (by omega)
  obtain ⟨ad2, e2, hp2⟩ := hrd M (Mem.le_refl _) ((i + 1) % ps.length) hmod
  cases e2
  have hb := beyond_fn (gp ps i) (nx ps i) M (hP _ (gp_mem hlt)) (hP _ (gp_mem hmod))
  repeat (first | refine VIf.tt ?_ | refine VIf.ff ?_)
  refine VIdx.mk ad' i rfl rfl hlt ?_
  repeat (first | refine VIf.tt ?_ | refine VIf.ff ?_)
  refine VReads.mk [.int .i64 (gp ps i).1, .int .i64 (gp ps i).2] rfl hp1 ?_
  repeat (first | refine VIf.tt ?_ | refine VIf.ff ?_)
  refine VDraw.go (by kernel_rfl) ?_
  repeat (first | refine VIf.tt ?_ | refine VIf.ff ?_)
  refine VRead.mk _ (box1 hB2) ?_
  repeat (first | refine VIf.tt ?_ | refine VIf.ff ?_)
  refine VRead.mk _ (box1 hB1) ?_
  repeat (first | refine VIf.tt ?_ | refine VIf.ff ?_)
  refine VArith.ok (by first | omega | (simp only; omega)) (by first | omega | (simp only; omega)) ?_
  repeat (first | refine VIf.tt ?_ | refine VIf.ff ?_)
  refine VRead.mk _ (box1 hB1) ?_
  repeat (first | refine VIf.tt ?_ | refine VIf.ff ?_)
  refine VDiv.mk (by omega) ?_
  repeat (first | refine VIf.tt ?_ | refine VIf.ff ?_)
  refine VIdx.mk ad' ((i + 1) % ps.length) rfl tmod_nat hmod ?_
  repeat (first | refine VIf.tt ?_ | refine VIf.ff ?_)
  refine VReads.mk [.int .i64 (gp ps ((i + 1) % ps.length)).1, .int .i64 (gp ps ((i + 1) % ps.length)).2] rfl hp2 ?_
  repeat (first | refine VIf.tt ?_ | refine VIf.ff ?_)
  refine VFn.p hb ?_
  repeat (first | refine VIf.tt ?_ | refine VIf.ff ?_)
  refine VYield.mk ((beyS ps).drop (i + 1)) ?_ ?_ ?_
  ·simp only [Gh.mk.injEq, and_true, true_and, Option.some.injEq, Prod.mk.injEq]
   rw [List.drop_eq_getElem_cons (by simpa [beyS] using hlt)]
   simp [beyS]
  ·refine VIf.ff ?_
   repeat (first | refine VIf.tt ?_ | refine VIf.ff ?_)
   refine VArith.ok (by first | omega | (simp only; omega)) (by first | omega | (simp only; omega)) ?_
   exact ⟨rfl, i + 1, hlt, by omega, Wk.mk' id ⟨⟨rfl, rfl⟩, ⟨rfl, rfl⟩, ⟨rfl, rfl⟩, ⟨rfl, rfl⟩, ⟨rfl, rfl⟩, ⟨rfl, rfl⟩, trivial⟩ trivial trivial rfl rfl rfl⟩
  ·refine VIf.tt ?_
   exact VEnd.stop rfl
 ·have hge : i = ps.length := by have := ge_of_dec hge; omega
  subst hge
  exact VEnd.all (by simp [beyS])
theorem beyS_get {q : List Pt} {k : Nat} {args : List Value} (h : (beyS q)[k]? = some args) : k < q.length ∧ args = [beyV (gp q k) (nx q k)] := by
 unfold beyS at h
 rw [List.getElem?_map] at h
 by_cases hk : k < q.length
 ·rw [List.getElem?_range hk] at h
  exact ⟨hk, by simpa using h.symm⟩
 ·rw [List.getElem?_eq_none (by rw [List.length_range]; omega)] at h; cases h
def halfs (q : List Pt) : Prop := ∀ i, i < q.length → halfB (beyA (gp q i) (nx q i)) (beyB (gp q i) (nx q i)) (beyC (gp q i) (nx q i)) = true
set_option maxRecDepth 20000 in
set_option maxHeartbeats 4000000 in
theorem leftE_fn (v w : Value) (p q : List Pt) (M : Mem) (hv : Pts M v p) (hw : Pts M w q) (hp : validB p = true) (hq : validB q = true) (hH : halfs q) :
  V.Fn Tryz.prog 33 [v, w] M fun rs M' => ∃ u, rs = [u] ∧ RegV M' u (leftA p q) := by
 have hA := Apart_is hv hw hp hq rfl
 have p64 := mem_64 (valid_mem hp)
 have hql := (len_one hq).2
 have hvs := hv
 have hws := hw
 obtain ⟨ad, c, rfl⟩ := hv.shape
 obtain ⟨bd, k, rfl⟩ := hw.shape
 refine Fn.of_vcode cxOK Tryz.func33 rfl rfl rfl ?_
 repeat (first | refine VIf.tt ?_ | refine VIf.ff ?_)
 refine VCode.st cxOK ?_
 repeat (first | refine VIf.tt ?_ | refine VIf.ff ?_)
 refine VCode.st cxOK ?_
 repeat (first | refine VIf.tt ?_ | refine VIf.ff ?_)
 refine VFn.mk _ hA ?_
 rintro rs M1 hM1 rfl
 repeat (first | refine VIf.tt ?_ | refine VIf.ff ?_)
 refine VIf.mk (fun e1 => ?_) (fun e1 => ?_)
 ·have e1 : (sharA p q).length = 0 := by have := beq_iff_eq.1 e1; omega
  repeat (first | refine VIf.tt ?_ | refine VIf.ff ?_)
  refine VFz.mk fun x Bx M2 hM2 hx => ?_
  repeat (first | refine VIf.tt ?_ | refine VIf.ff ?_)
  refine VFact.mk ⟨x, rfl, ?_⟩ trivial
  unfold leftA
  rw [if_pos e1]
  exact RegV.of1 hx (hvs.le (hM1.trans hM2)) p64
 have e1 : ¬ (sharA p q).length = 0 := fun h => by rw [h] at e1; simp at e1
 repeat (first | refine VIf.tt ?_ | refine VIf.ff ?_)
 refine VCode.st cxOK ?_
 repeat (first | refine VIf.tt ?_ | refine VIf.ff ?_)
 refine VCode.seq ?_
 repeat (first | refine VIf.tt ?_ | refine VIf.ff ?_)
 refine VCode.st cxOK ?_
 repeat (first | refine VIf.tt ?_ | refine VIf.ff ?_)
 refine VFn.mk _ (sidesA_fn _ rfl M1) ?_
 rintro rs M2 hM2 ⟨B1, B2, rfl, hB1, hB2⟩
 have m2 := hM1.trans hM2
 repeat (first | refine VIf.tt ?_ | refine VIf.ff ?_)
 refine VCode.block ?_
 repeat (first | refine VIf.tt ?_ | refine VIf.ff ?_)
 refine VCode.rangeB cxOK rfl (sidesA_iter M2 B1 B2 _ q hB1 hB2 (hws.le m2) (valid_mem hq)) (fun x hx => ?_) [(2, .box 0 0), (7, .box 1 0)] rfl (by kernel_rfl) (by kernel_rfl) (List Value × Mem)
  (fun k (⟨xs, M3⟩ : List Value × Mem) => ⟨[(2, .box 0 0), (7, .box 1 0)], [(0, some (.box 27 [.v (.slice ad p.length c)])), (1, some (.box 22 [.row 2])), (2, some (.row 27 1 xs.length xs))], 3, M3, 37, ⟨fun _ => none, none, fun _ => none⟩⟩)
  (fun k (⟨xs, M3⟩ : List Value × Mem) => (M2.le M3 ∧ k ≤ q.length) ∧ PlsV M3 xs (beyL p q k)) ([], M2) ⟨⟨Mem.le_refl _, Nat.zero_le _⟩, PlsV.nil _⟩ ?_ (fun k s => ⟨rfl, rfl⟩) ?_ ?_
 ·simp only [beyS, List.mem_map] at hx
  obtain ⟨k, _, rfl⟩ := hx
  rfl
 ·exact Wk.nilBox 1 22 [] [] 27 1 rfl (Wk.mk' id (by repeat' constructor) (by repeat' constructor) (injOK_id _) rfl rfl rfl)
 ·rintro k ⟨xs, M3⟩ args ⟨⟨hM3, hk⟩, hxs'⟩ hxs m f
  obtain ⟨hk, rfl⟩ := beyS_get hxs
  intro m'
  have hlen := beyL_len p q k
  have hxl : xs.length ≤ 64 := by have := hxs'.1; omega
  have m3 := m2.trans hM3
  have hst := beyL_step p q k
  have hHk := hH k hk
  have hcp := cut_place hp (beyA (gp q k) (nx q k)) (beyB (gp q k) (nx q k)) (beyC (gp q k) (nx q k))
  have hC := Cut_is (hvs.le m3) p64 hp hHk rfl rfl
  obtain ⟨A, hA⟩ : ∃ A, A = beyA (gp q k) (nx q k) := ⟨_, rfl⟩
  obtain ⟨B, hB⟩ : ∃ B, B = beyB (gp q k) (nx q k) := ⟨_, rfl⟩
  obtain ⟨C, hC'⟩ : ∃ C, C = beyC (gp q k) (nx q k) := ⟨_, rfl⟩
  unfold beyV halV
  rw [← hA, ← hB, ← hC'] at hC hst hcp ⊢
  repeat (first | refine VIf.tt ?_ | refine VIf.ff ?_)
  refine VFn.mk _ hC ?_
  rintro rs M4 hM4 ⟨u, rfl, hu⟩
  obtain ⟨ud, uc, rfl⟩ := hu.shape
  repeat (first | refine VIf.tt ?_ | refine VIf.ff ?_)
  refine VIf.mk (fun e2 => ?_) (fun e2 => ?_)
  ·have e2 : cutA p A B C ≠ [] := fun h => by rw [h] at e2; simp at e2
   repeat (first | refine VIf.tt ?_ | refine VIf.ff ?_)
   refine VFact.mk (by simp; omega) ?_
   refine ⟨(xs ++ [.slice ud (arC (cutA p A B C)).length uc], M4), ⟨⟨hM3.trans hM4, hk⟩, ?_⟩, Wk.mk' (fun i => if i = 2 then 5 else i) (by repeat' constructor) ?_ (injOK_b rfl) rfl rfl rfl⟩
   ·rw [hst]
    unfold optL
    rw [if_neg e2]
    exact (hxs'.le hM4).snoc hu (arC_64 hcp)
   ·repeat' constructor
    all_goals simp
  ·have e2 : cutA p A B C = [] := by
    cases h : cutA p A B C with
    | nil => rfl
    | cons y l => rw [h] at e2; simp at e2
   refine ⟨(xs, M4), ⟨⟨hM3.trans hM4, hk⟩, ?_⟩, (Wk.mk' id (by repeat' constructor) (by repeat' constructor) (injOK_id _) rfl rfl rfl)⟩
   rw [hst, e2]
   unfold optL
   rw [if_pos rfl, List.append_nil]
   exact hxs'.le hM4
 ·rintro ⟨xs, M3⟩ m ⟨⟨hM3, _⟩, hxs⟩
  have er : (beyS q).length = q.length := by simp [beyS]
  rw [er] at hxs
  repeat (first | refine VIf.tt ?_ | refine VIf.ff ?_)
  refine VCode.of_vc cxOK ?_
  repeat (first | refine VIf.tt ?_ | refine VIf.ff ?_)
  refine VFz.mk fun u Bu M4 hM4 hu => ?_
  repeat (first | refine VIf.tt ?_ | refine VIf.ff ?_)
  refine VFact.mk ⟨u, rfl, ?_⟩ trivial
  have hxs := hxs.le hM4
  unfold leftA
  rw [if_neg e1]
  exact RegV.of' hu hxs.1 hxs
set_option maxRecDepth 20000 in
set_option maxHeartbeats 4000000 in
theorem beyond19_fn (v w : Value) (p q : List Pt) (M : Mem) (hv : Pts M v p) (hw : Pts M w q) (hp : validB p = true) (hq : validB q = true) (hl2 : q.length ≤ 8) (hH : halfs q) :
  V.Fn Tryz.prog 36 [v, w] M fun rs M' => ∃ u, rs = [u] ∧ RegV M' u (leftA p q) := by
 have hA := Apart04_fn v w p q M hv hw hp hq hl2
 have p64 := mem_64 (valid_mem hp)
 have hvs := hv
 have hws := hw
 obtain ⟨ad, c, rfl⟩ := hv.shape
 obtain ⟨bd, k, rfl⟩ := hw.shape
 obtain ⟨_, hm, hrd⟩ := hws.cellsOf
 refine Fn.of_vcode cxOK Tryz.func36 rfl rfl rfl ?_
 repeat (first | refine VIf.tt ?_ | refine VIf.ff ?_)
 refine VCode.st cxOK ?_
 repeat (first | refine VIf.tt ?_ | refine VIf.ff ?_)
 refine VCode.st cxOK ?_
 repeat (first | refine VIf.tt ?_ | refine VIf.ff ?_)
 refine VFn.mk _ hA ?_
 rintro rs M1 hM1 rfl
 repeat (first | refine VIf.tt ?_ | refine VIf.ff ?_)
 refine VCode.st cxOK ?_
 repeat (first | refine VIf.tt ?_ | refine VIf.ff ?_)
 refine VIf.mk (fun e1 => ?_) (fun e1 => ?_)
 ·have e1 := of_decide_eq_true e1
  repeat (first | refine VIf.tt ?_ | refine VIf.ff ?_)
  refine VFz.mk fun x Bx M2 hM2 hx => ?_
  repeat (first | refine VIf.tt ?_ | refine VIf.ff ?_)
  refine VFact.mk ⟨x, rfl, ?_⟩ trivial
  unfold leftA
  rw [if_pos e1]
  exact RegV.of1 hx (hvs.le (hM1.trans hM2)) p64
 have e1 := of_decide_eq_false e1
 repeat (first | refine VIf.tt ?_ | refine VIf.ff ?_)
 refine VCode.st cxOK ?_
 repeat (first | refine VIf.tt ?_ | refine VIf.ff ?_)
 refine VCode.seq ?_
 repeat (first | refine VIf.tt ?_ | refine VIf.ff ?_)
 refine VCode.st cxOK ?_
 repeat (first | refine VIf.tt ?_ | refine VIf.ff ?_)
 refine VCode.block ?_
 repeat (first | refine VIf.tt ?_ | refine VIf.ff ?_)
 refine VCode.loopC (Nat × List Value × Mem) (fun (⟨i, xs, M3⟩ : Nat × List Value × Mem) => ⟨[(0, .v (.slice ad p.length c)), (1, .v (.slice bd q.length k)), (7, .row 0), (8, .v (.int .i64 i))], [(0, some (.row 27 1 xs.length xs))], 1, M3, 79, ⟨fun _ => none, none, fun _ => none⟩⟩)
  (fun (⟨i, xs, M3⟩ : Nat × List Value × Mem) => (M1.le M3 ∧ i ≤ q.length) ∧ PlsV M3 xs (beyL p q i)) (fun (⟨i, _, _⟩ : Nat × List Value × Mem) => q.length - i) (0, [], M1) ⟨⟨Mem.le_refl _, Nat.zero_le _⟩, PlsV.nil _⟩ (Wk.nil 7 27 1 rfl (Wk.mk' id (by repeat' constructor) (by repeat' constructor) (injOK_id _) rfl rfl rfl)) ?_
 rintro ⟨i, xs, M3⟩ ⟨⟨hM3, hi⟩, hxs⟩ m
 repeat (first | refine VIf.tt ?_ | refine VIf.ff ?_)
 refine VCode.st cxOK ?_
 repeat (first | refine VIf.tt ?_ | refine VIf.ff ?_)
 refine VIf.mk (fun hlt => ?_) (fun hge => ?_)
 ·have hlt := lt_of_dec hlt
  have m3 := hM1.trans hM3
  obtain ⟨ad', rfl, hp1⟩ := hrd M3 m3 i hlt
  have hmod : (i + 1) % q.length < q.length := Nat.mod_lt _ (by omega)
  obtain ⟨ad2, e2, hp2⟩ := hrd M3 m3 ((i + 1) % q.length) hmod
  cases e2
  have hlen := beyL_len p q i
  have hxl : xs.length ≤ 64 := by have := hxs.1; omega
  have hst := beyL_step p q i
  have hHk := hH i hlt
  have hcp := cut_place hp (beyA (gp q i) (nx q i)) (beyB (gp q i) (nx q i)) (beyC (gp q i) (nx q i))
  have ha := place_box.1 (valid_mem hq _ (gp_mem hlt))
  have hb := place_box.1 (valid_mem hq _ (gp_mem hmod))
  have hC := Cut04_fn _ p (beyA (gp q i) (nx q i)) (beyB (gp q i) (nx q i)) (beyC (gp q i) (nx q i)) M3 (hvs.le m3) p64
  rw [hp, hHk] at hC
  unfold nx at hC hst hcp
  obtain ⟨a, ea⟩ : ∃ a, a = gp q i := ⟨_, rfl⟩
  obtain ⟨b, eb⟩ : ∃ b, b = gp q ((i + 1) % q.length) := ⟨_, rfl⟩
  rw [← ea] at ha hC hst hcp hp1
  rw [← eb] at hb hC hst hcp hp2
  have m1 := mulP (u := b.1 - a.1) (w := a.2) (by omega) (by omega)
  have m2 := mulP (u := b.2 - a.2) (w := a.1) (by omega) (by omega)
  repeat (first | refine VIf.tt ?_ | refine VIf.ff ?_)
  refine VCode.seq (VCode.block ?_)
  repeat (first | refine VIf.tt ?_ | refine VIf.ff ?_)
  refine VCode.st cxOK ?_
  repeat (first | refine VIf.tt ?_ | refine VIf.ff ?_)
  refine VIdx.mk ad' i rfl rfl hlt ?_
  repeat (first | refine VIf.tt ?_ | refine VIf.ff ?_)
  refine VReads.mk [.int .i64 a.1, .int .i64 a.2] rfl hp1 ?_
  repeat (first | refine VIf.tt ?_ | refine VIf.ff ?_)
  refine VCode.st cxOK ?_
  repeat (first | refine VIf.tt ?_ | refine VIf.ff ?_)
  refine VArith.ok (by first | omega | (simp only; omega)) (by first | omega | (simp only; omega)) ?_
  repeat (first | refine VIf.tt ?_ | refine VIf.ff ?_)
  refine VDiv.mk (by omega) ?_
  repeat (first | refine VIf.tt ?_ | refine VIf.ff ?_)
  refine VIdx.mk ad' ((i + 1) % q.length) rfl tmod_nat hmod ?_
  repeat (first | refine VIf.tt ?_ | refine VIf.ff ?_)
  refine VReads.mk [.int .i64 b.1, .int .i64 b.2] rfl hp2 ?_
  repeat (first | refine VIf.tt ?_ | refine VIf.ff ?_)
  refine VCode.st cxOK ?_
  repeat (first | refine VIf.tt ?_ | refine VIf.ff ?_)
  refine VArith.ok (by first | omega | (simp only; omega)) (by first | omega | (simp only; omega)) ?_
  repeat (first | refine VIf.tt ?_ | refine VIf.ff ?_)
  refine VCode.st cxOK ?_
  repeat (first | refine VIf.tt ?_ | refine VIf.ff ?_)
  refine VArith.ok (by first | omega | (simp only; omega)) (by first | omega | (simp only; omega)) ?_
  repeat (first | refine VIf.tt ?_ | refine VIf.ff ?_)
  refine VCode.st cxOK ?_
  repeat (first | refine VIf.tt ?_ | refine VIf.ff ?_)
  refine VArith.ok (by first | omega | (simp only; omega)) (by first | omega | (simp only; omega)) ?_
  repeat (first | refine VIf.tt ?_ | refine VIf.ff ?_)
  refine VArith.ok (by first | omega | (simp only; omega)) (by first | omega | (simp only; omega)) ?_
  repeat (first | refine VIf.tt ?_ | refine VIf.ff ?_)
  refine VArith.ok (by first | omega | (simp only; omega)) (by first | omega | (simp only; omega)) ?_
  repeat (first | refine VIf.tt ?_ | refine VIf.ff ?_)
  refine VArith.ok (by first | omega | (simp only; omega)) (by first | omega | (simp only; omega)) ?_
  repeat (first | refine VIf.tt ?_ | refine VIf.ff ?_)
  refine VArith.ok (by first | omega | (simp only; omega)) (by first | omega | (simp only; omega)) ?_
  repeat (first | refine VIf.tt ?_ | refine VIf.ff ?_)
  refine VFn.mk _ hC ?_
  intro rs M4 hM4 hrs
  rw [if_pos (by rfl)] at hrs
  obtain ⟨u, rfl, hu⟩ := hrs
  obtain ⟨ud, uc, rfl⟩ := hu.shape
  repeat (first | refine VIf.tt ?_ | refine VIf.ff ?_)
  refine VCode.of_vc cxOK ?_
  repeat (first | refine VIf.tt ?_ | refine VIf.ff ?_)
  refine VIf.mk (fun e2 => ?_) (fun e2 => ?_)
  ·have e2 : cutA p (beyA a b) (beyB a b) (beyC a b) ≠ [] := fun h => by rw [h] at e2; simp at e2
   repeat (first | refine VIf.tt ?_ | refine VIf.ff ?_)
   refine VFact.mk (by simp; omega) ?_
   repeat (first | refine VIf.tt ?_ | refine VIf.ff ?_)
   refine VCode.of_vc cxOK ?_
   repeat (first | refine VIf.tt ?_ | refine VIf.ff ?_)
   refine VArith.ok (by first | omega | (simp only; omega)) (by first | omega | (simp only; omega)) ?_
   refine ⟨(i + 1, xs ++ [.slice ud (arC (cutA p (beyA a b) (beyB a b) (beyC a b))).length uc], M4), ⟨⟨hM3.trans hM4, hlt⟩, ?_⟩, (by first | omega | (simp only; omega)), Wk.mk' (fun i => if i = 0 then 4 else i) (by repeat' constructor) ?_ (injOK_b rfl) rfl rfl rfl⟩
   ·rw [hst]
    unfold optL
    rw [if_neg e2]
    exact (hxs.le hM4).snoc hu (arC_64 hcp)
   ·repeat' constructor
    all_goals simp
  ·have e2 : cutA p (beyA a b) (beyB a b) (beyC a b) = [] := by
    cases h : cutA p (beyA a b) (beyB a b) (beyC a b) with
    | nil => rfl
    | cons y l => rw [h] at e2; simp at e2
   repeat (first | refine VIf.tt ?_ | refine VIf.ff ?_)
   refine VCode.of_vc cxOK ?_
   repeat (first | refine VIf.tt ?_ | refine VIf.ff ?_)
   refine VArith.ok (by first | omega | (simp only; omega)) (by first | omega | (simp only; omega)) ?_
   refine ⟨(i + 1, xs, M4), ⟨⟨hM3.trans hM4, hlt⟩, ?_⟩, (by first | omega | (simp only; omega)), (Wk.mk' id (by repeat' constructor) (by repeat' constructor) (injOK_id _) rfl rfl rfl)⟩
   rw [hst, e2]
   unfold optL
   rw [if_pos rfl, List.append_nil]
   exact hxs.le hM4
 ·have : i = q.length := by have := ge_of_dec hge; omega
  subst this
  repeat (first | refine VIf.tt ?_ | refine VIf.ff ?_)
  refine VCode.of_vc cxOK ?_
  repeat (first | refine VIf.tt ?_ | refine VIf.ff ?_)
  refine VFz.mk fun u Bu M4 hM4 hu => ?_
  repeat (first | refine VIf.tt ?_ | refine VIf.ff ?_)
  refine VFact.mk ⟨u, rfl, ?_⟩ trivial
  have hxs := hxs.le hM4
  unfold leftA
  rw [if_neg e1]
  exact RegV.of' hu hxs.1 hxs
end Go.Proofs.YtdfhnemhkpplbaaGreatDoor
