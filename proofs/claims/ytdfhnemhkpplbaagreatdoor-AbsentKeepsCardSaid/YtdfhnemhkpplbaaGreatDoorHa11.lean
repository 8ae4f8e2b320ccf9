/- AbsentKeeps, tied. No conditions beyond the statement's own: the package variable of the signs is laid by the program's text. -/
import Derived.Test.YtdfhnemhkpplbaaGreatDoorHa10
import Derived.Test.YtdfhnemhkpplbaaGreatDoorCards
import Derived.Test.YtdfhnemhkpplbaaGreatDoorTie
import Derived.ProofKit
import Derived.LaidMore
import Derived.OpenShut
import Derived.Stop.Joined
import Derived.SevenTiedAt
set_option linter.unusedVariables false
set_option linter.unusedSimpArgs false
namespace Go.Proofs.YtdfhnemhkpplbaaGreatDoor
open Go Go.V Go.RowKit
def FarR (r : List (List Pt)) (x : Pt) (d : Int) (rs : List Value) (M : Mem) : Prop :=
 if regionB r = true ∧ placeB x = true ∧ (0 ≤ d ∧ d ≤ 100000) then (if d = 0 ∨ innOK x d = true then ∃ u, rs = [u, .int .i64 0] ∧ RegV M u (farL r x d) else rs = [.slice none 0 0, .int .i64 3]) else rs = [.slice none 0 0, .int .i64 1]
theorem inn_halfs {x : Pt} {d : Int} (hx : placeB x = true) (hd : 2 ≤ d ∧ d ≤ 100000) (hok : innOK x d = true) : halfs (innP x d) := fun _ hi => bey_half hx hd hok hi
theorem farR_take (r : List (List Pt)) (x : Pt) (d : Int) {t : Nat} (ht : t < r.length) : farR (r.take (t + 1)) x d = farR (r.take t) x d ++ leftA (gr r t) (innP x d) := flatR_take [] (fun p => leftA p (innP x d)) r ht
theorem innP_len {x : Pt} {d : Int} : (innP x d).length ≤ 8 := by
 unfold innP
 rw [len_move]
 have := hl_len (innA_hl (d - 1))
 simpa [innL] using this
theorem farR_len (r : List (List Pt)) (x : Pt) (d : Int) : (farR r x d).length ≤ 8 * r.length := by
 have h := flatMap_len (fun p => leftA p (innP x d)) 8 (fun p => by
  unfold leftA
  split
  ·simp
  ·have := beyL_len p (innP x d) (innP x d).length
   have := innP_len (x := x) (d := d)
   omega) r
 unfold farR
 omega
set_option maxRecDepth 20000 in
set_option maxHeartbeats 4000000 in
theorem FarE_fn (v : Value) (r : List (List Pt)) (x : Pt) (d : Int) (t : TypeId) (M : Mem) (hS : M 0 = some (.cells sgnC t (0, 0))) (hv : RegV M v r) (hx : i64r x.1 ∧ i64r x.2) (hd : i64r d) : V.Fn Tryz.prog 12 [v, ptv x, .int .i64 d] M (FarR r x d) := by
 have hVr := regValid_fn v r M hv
 have hvs := hv
 obtain ⟨ra, rk, rfl, hrm, hrr⟩ := hv.get
 refine Fn.of_vcode cxOK Tryz.func12 rfl rfl rfl ?_
 repeat (first | refine VIf.tt ?_ | refine VIf.ff ?_)
 refine VCode.st cxOK ?_
 repeat (first | refine VIf.tt ?_ | refine VIf.ff ?_)
 refine VCode.st cxOK ?_
 repeat (first | refine VIf.tt ?_ | refine VIf.ff ?_)
 refine VFn.mk _ hVr ?_
 rintro rs M1 hM1 rfl
 repeat (first | refine VIf.tt ?_ | refine VIf.ff ?_)
 refine VIf.mk (fun e1 => ?_) (fun e1 => ?_)
 ·repeat (first | refine VIf.tt ?_ | refine VIf.ff ?_)
  refine VFact.mk ?_ trivial
  unfold FarR
  rw [if_neg (fun h => by rw [bn1 e1] at h; cases h.1)]
 have hR := bn2 e1
 have hr32 : r.length ≤ 32 := by
  simp only [regionB, Bool.and_eq_true, decide_eq_true_eq] at hR
  exact hR.1
 have hall : ∀ p ∈ r, validB p = true := by
  simp only [regionB, Bool.and_eq_true] at hR
  exact fun p hp => List.all_eq_true.1 hR.2 p hp
 repeat (first | refine VIf.tt ?_ | refine VIf.ff ?_)
 refine VCode.st cxOK ?_
 repeat (first | refine VIf.tt ?_ | refine VIf.ff ?_)
 refine VFn.mk _ (InnerE_fn x d t M1 (hM1 _ _ hS) hx hd) ?_
 intro rs M2 hM2 hrs
 have m2 := hM1.trans hM2
 unfold InnR at hrs
 by_cases hok : placeB x = true ∧ (0 ≤ d ∧ d ≤ 100000)
 rotate_left
 ·rw [if_neg hok] at hrs
  subst hrs
  repeat (first | refine VIf.tt ?_ | refine VIf.ff ?_)
  refine VCode.of_vc cxOK ?_
  repeat refine VIf.mk (fun _ => ?_) (fun q => absurd q (by decide))
  repeat (first | refine VIf.tt ?_ | refine VIf.ff ?_)
  refine VFact.mk ?_ trivial
  unfold FarR
  rw [if_neg (fun h => hok h.2)]
 rw [if_pos hok] at hrs
 have fin1 : ∀ u M', (d = 0 ∨ innOK x d = true) → RegV M' u (farL r x d) → FarR r x d [u, .int .i64 0] M' := fun u M' h1 h2 => by
  unfold FarR
  rw [if_pos ⟨hR, hok⟩, if_pos h1]
  exact ⟨u, rfl, h2⟩
 have tdy : ∀ l : List (List Pt), l.length ≤ 4000 → (∀ p ∈ l, validB p = true) → tidyOK l = true := fun l h1 h2 => by
  unfold tidyOK
  rw [decide_eq_true h1, List.all_eq_true.2 h2]; rfl
 by_cases d0 : d = 0
 ·rw [if_pos d0] at hrs
  subst hrs
  repeat (first | refine VIf.tt ?_ | refine VIf.ff ?_)
  refine VCode.of_vc cxOK ?_
  repeat refine VIf.mk (fun q => absurd q (by decide)) (fun _ => ?_)
  repeat (first | refine VIf.tt ?_ | refine VIf.ff ?_)
  refine VIf.mk (fun _ => ?_) (fun q => absurd q (by rw [d0]; decide))
  repeat (first | refine VIf.tt ?_ | refine VIf.ff ?_)
  refine VFn.mk _ (Tidy_fn _ r M2 (hvs.le m2)) ?_
  intro rs M3 hM3 hrs
  rw [if_pos (tdy r (by omega) hall)] at hrs
  obtain ⟨u, rfl, hu⟩ := hrs
  obtain ⟨ua, uc, rfl⟩ := hu.shape
  repeat (first | refine VIf.tt ?_ | refine VIf.ff ?_)
  exact VFact.mk (fin1 _ _ (.inl d0) (by unfold farL; rw [if_pos d0]; exact hu)) trivial
 rw [if_neg d0] at hrs
 by_cases ho : innOK x d = true
 rotate_left
 ·rw [if_neg ho] at hrs
  subst hrs
  repeat (first | refine VIf.tt ?_ | refine VIf.ff ?_)
  refine VCode.of_vc cxOK ?_
  repeat refine VIf.mk (fun _ => ?_) (fun q => absurd q (by decide))
  repeat (first | refine VIf.tt ?_ | refine VIf.ff ?_)
  refine VFact.mk ?_ trivial
  unfold FarR
  rw [if_pos ⟨hR, hok⟩, if_neg (fun h => h.elim d0 ho)]
 rw [if_pos ho] at hrs
 obtain ⟨w, rfl, hw⟩ := hrs
 have hws := hw
 obtain ⟨wa, wc, rfl⟩ := hw.shape
 by_cases d1 : d = 1
 ·repeat (first | refine VIf.tt ?_ | refine VIf.ff ?_)
  refine VCode.of_vc cxOK ?_
  repeat refine VIf.mk (fun q => absurd q (by decide)) (fun _ => ?_)
  repeat (first | refine VIf.tt ?_ | refine VIf.ff ?_)
  refine VIf.mk (fun q => absurd q (by simpa using d0)) (fun _ => ?_)
  repeat (first | refine VIf.tt ?_ | refine VIf.ff ?_)
  refine VIf.mk (fun _ => ?_) (fun q => absurd q (by rw [d1]; decide))
  repeat (first | refine VIf.tt ?_ | refine VIf.ff ?_)
  refine VFn.mk _ (Out_fn _ r x x M2 (hvs.le m2)) ?_
  intro rs M3 hM3 hrs
  rw [if_pos (by unfold outOK; simp [hR, hok.1])] at hrs
  obtain ⟨u, rfl, hu⟩ := hrs
  obtain ⟨ua, uc, rfl⟩ := hu.shape
  repeat (first | refine VIf.tt ?_ | refine VIf.ff ?_)
  exact VFact.mk (fin1 _ _ (.inr ho) (by unfold farL; rw [if_neg d0, if_pos d1]; exact hu)) trivial
 have hd2 : 2 ≤ d ∧ d ≤ 100000 := by omega
 have hH := inn_halfs hok.1 hd2 ho
 have hq := innP_valid (by omega) ho
 have hfl : farL r x d = tidyB (farR r x d) := by unfold farL; rw [if_neg d0, if_neg d1]
 repeat (first | refine VIf.tt ?_ | refine VIf.ff ?_)
 refine VCode.st cxOK ?_
 repeat refine VIf.mk (fun q => absurd q (by decide)) (fun _ => ?_)
 repeat (first | refine VIf.tt ?_ | refine VIf.ff ?_)
 refine VIf.mk (fun q => absurd q (by simpa using d0)) (fun _ => ?_)
 repeat (first | refine VIf.tt ?_ | refine VIf.ff ?_)
 refine VIf.mk (fun q => absurd q (by simpa using d1)) (fun _ => ?_)
 repeat (first | refine VIf.tt ?_ | refine VIf.ff ?_)
 refine VCode.st cxOK ?_
 repeat (first | refine VIf.tt ?_ | refine VIf.ff ?_)
 refine VCode.seq ?_
 repeat (first | refine VIf.tt ?_ | refine VIf.ff ?_)
 refine VCode.st cxOK ?_
 repeat (first | refine VIf.tt ?_ | refine VIf.ff ?_)
 refine VCode.block ?_
 repeat (first | refine VIf.tt ?_ | refine VIf.ff ?_)
 refine VCode.loopC (Nat × List Value × Mem) (fun (⟨i, xs, M3⟩ : Nat × List Value × Mem) => ⟨[(8, .v (.slice wa (innP x d).length wc)), (11, .row 1), (44, .v (.slice ra r.length rk)), (45, .v (.int .i64 r.length)), (46, .v (.int .i64 i))], [(0, some (.box 24 [.v (.int .i64 x.1), .v (.int .i64 x.2)])), (1, some (.row 27 1 xs.length xs))], 2, M3, 60, ⟨fun _ => none, none, fun _ => none⟩⟩)
  (fun (⟨i, xs, M3⟩ : Nat × List Value × Mem) => (M2.le M3 ∧ i ≤ r.length) ∧ PlsV M3 xs (farR (r.take i) x d)) (fun (⟨i, _, _⟩ : Nat × List Value × Mem) => r.length - i) (0, [], M2) ⟨⟨Mem.le_refl _, Nat.zero_le _⟩, PlsV.nil _⟩ (Wk.nil 11 27 1 rfl (Wk.mk' id (by repeat' constructor) (by repeat' constructor) (injOK_id _) rfl rfl rfl)) ?_
 rintro ⟨i, xs, M3⟩ ⟨⟨hM3, hi⟩, hxs⟩ m
 have hxl : xs.length ≤ 256 := by
  have h1 := hxs.1
  have h2 := farR_len (r.take i) x d
  rw [List.length_take] at h2
  omega
 have m3 := m2.trans hM3
 repeat (first | refine VIf.tt ?_ | refine VIf.ff ?_)
 refine VCode.st cxOK ?_
 repeat (first | refine VIf.tt ?_ | refine VIf.ff ?_)
 refine VCode.st cxOK ?_
 repeat (first | refine VIf.tt ?_ | refine VIf.ff ?_)
 refine VIf.mk (fun hlt => ?_) (fun hge => ?_)
 ·have hlt := lt_of_dec hlt
  obtain ⟨a1, w1, f1, p1, q1, c1⟩ := hrr M3 m3 i hlt
  have hV : validB (gr r i) = true := val_gr hall hlt
  have p1 : Pts M3 w1 (gr r i) := p1
  have hst := farR_take r x d hlt
  have hll : (leftA (gr r i) (innP x d)).length ≤ 64 := leftA_len _ _ (by have := innP_len (x := x) (d := d); omega)
  generalize gr r i = p at *
  repeat (first | refine VIf.tt ?_ | refine VIf.ff ?_)
  refine VCode.seq (VCode.block ?_)
  repeat (first | refine VIf.tt ?_ | refine VIf.ff ?_)
  refine VCode.st cxOK ?_
  repeat (first | refine VIf.tt ?_ | refine VIf.ff ?_)
  refine VIdx.mk a1 i f1 rfl hlt ?_
  repeat (first | refine VIf.tt ?_ | refine VIf.ff ?_)
  refine VRead.mk _ c1 ?_
  repeat (first | refine VIf.tt ?_ | refine VIf.ff ?_)
  refine VCode.of_vc cxOK ?_
  repeat (first | refine VIf.tt ?_ | refine VIf.ff ?_)
  refine VFn.mk _ (leftE_fn w1 _ p (innP x d) M3 p1 (hws.le hM3) hV hq hH) ?_
  rintro rs M4 hM4 ⟨u, rfl, hu⟩
  obtain ⟨ys, hys, hpy⟩ := RegV.pls hu
  obtain ⟨ua, uc, rfl⟩ := hu.shape
  repeat (first | refine VIf.tt ?_ | refine VIf.ff ?_)
  refine VSl.mk _ _ hys ?_
  repeat (first | refine VIf.tt ?_ | refine VIf.ff ?_)
  refine VFact.mk (by simp; omega) ?_
  repeat (first | refine VIf.tt ?_ | refine VIf.ff ?_)
  refine VCode.of_vc cxOK ?_
  repeat (first | refine VIf.tt ?_ | refine VIf.ff ?_)
  refine VArith.ok (by first | omega | (simp only; omega)) (by first | omega | (simp only; omega)) ?_
  refine ⟨(i + 1, xs ++ ys, M4), ⟨⟨hM3.trans hM4, hlt⟩, ?_⟩, (by first | omega | (simp only; omega)), Wk.mk' (fun i => if i = 1 then 2 else i) (by repeat' constructor) ?_ (injOK_b rfl) rfl rfl rfl⟩
  ·rw [hst]
   exact (hxs.le hM4).app hpy
  ·have := hpy.1
   repeat' constructor
   all_goals (simp <;> omega)
 have : i = r.length := by have := ge_of_dec hge; omega
 subst this
 rw [List.take_length] at hxs
 repeat (first | refine VIf.tt ?_ | refine VIf.ff ?_)
 refine VCode.frz [11] ?_
 repeat (first | refine VIf.tt ?_ | refine VIf.ff ?_)
 refine VFz.mk fun u Bu M4 hM4 hu => ?_
 have hxs := hxs.le hM4
 have hreg := RegV.of' hu hxs.1 hxs
 obtain ⟨ua, uc, rfl⟩ := hreg.shape
 repeat (first | refine VIf.tt ?_ | refine VIf.ff ?_)
 refine VCode.of_vc cxOK ?_
 repeat (first | refine VIf.tt ?_ | refine VIf.ff ?_)
 refine VFn.mk _ (Tidy_fn _ _ M4 hreg) ?_
 intro rs M5 hM5 hrs
 rw [if_pos (tdy _ (by have := farR_len r x d; omega) (farR_valid hall x d))] at hrs
 obtain ⟨u2, rfl, hu2⟩ := hrs
 obtain ⟨ub, ud, rfl⟩ := hu2.shape
 repeat (first | refine VIf.tt ?_ | refine VIf.ff ?_)
 exact VFact.mk (fin1 _ _ (.inr ho) (by rw [hfl]; exact hu2)) trivial
set_option maxRecDepth 20000 in
set_option maxHeartbeats 4000000 in
theorem Far19_fn (v : Value) (r : List (List Pt)) (x : Pt) (d : Int) (M : Mem) (hv : RegV M v r) (hx : i64r x.1 ∧ i64r x.2) (hd : i64r d) : V.Fn Tryz.prog 13 [v, ptv x, .int .i64 d] M (FarR r x d) := by
 have hVr := fun M' (hM : M.le M') => regValidR_fn v r M' (hv.le hM)
 have hvs := hv
 obtain ⟨ra, rk, rfl, hrm, hrr⟩ := hv.get
 refine Fn.of_vcode cxOK Tryz.func13 rfl rfl rfl ?_
 repeat (first | refine VIf.tt ?_ | refine VIf.ff ?_)
 refine VCode.st cxOK ?_
 repeat (first | refine VIf.tt ?_ | refine VIf.ff ?_)
 refine VCode.st cxOK ?_
 repeat (first | refine VIf.tt ?_ | refine VIf.ff ?_)
 refine VFn.p (hVr M (Mem.le_refl _)) ?_
 repeat (first | refine VIf.tt ?_ | refine VIf.ff ?_)
 refine VCode.st cxOK ?_
 repeat (first | refine VIf.tt ?_ | refine VIf.ff ?_)
 refine VIf.mk (fun e1 => ?_) (fun e1 => ?_)
 ·repeat (first | refine VIf.tt ?_ | refine VIf.ff ?_)
  refine VFact.mk ?_ trivial
  unfold FarR
  rw [if_neg (fun h => by rw [bn1 e1] at h; cases h.1)]
 have hR := bn2 e1
 have hr32 : r.length ≤ 32 := by
  simp only [regionB, Bool.and_eq_true, decide_eq_true_eq] at hR
  exact hR.1
 have hall : ∀ p ∈ r, validB p = true := by
  simp only [regionB, Bool.and_eq_true] at hR
  exact fun p hp => List.all_eq_true.1 hR.2 p hp
 repeat (first | refine VIf.tt ?_ | refine VIf.ff ?_)
 refine VCode.st cxOK ?_
 repeat (first | refine VIf.tt ?_ | refine VIf.ff ?_)
 refine VFn.mk _ (InnerR_fn x d M hx hd) ?_
 intro rs M2 hM2 hrs
 unfold InnR at hrs
 by_cases hok : placeB x = true ∧ (0 ≤ d ∧ d ≤ 100000)
 rotate_left
 ·rw [if_neg hok] at hrs
  subst hrs
  repeat (first | refine VIf.tt ?_ | refine VIf.ff ?_)
  refine VCode.of_vc cxOK ?_
  repeat refine VIf.mk (fun _ => ?_) (fun q => absurd q (by decide))
  repeat (first | refine VIf.tt ?_ | refine VIf.ff ?_)
  refine VFact.mk ?_ trivial
  unfold FarR
  rw [if_neg (fun h => hok h.2)]
 rw [if_pos hok] at hrs
 have fin1 : ∀ u M', (d = 0 ∨ innOK x d = true) → RegV M' u (farL r x d) → FarR r x d [u, .int .i64 0] M' := fun u M' h1 h2 => by
  unfold FarR
  rw [if_pos ⟨hR, hok⟩, if_pos h1]
  exact ⟨u, rfl, h2⟩
 by_cases d0 : d = 0
 ·rw [if_pos d0] at hrs
  subst hrs
  repeat (first | refine VIf.tt ?_ | refine VIf.ff ?_)
  refine VCode.of_vc cxOK ?_
  repeat refine VIf.mk (fun q => absurd q (by decide)) (fun _ => ?_)
  repeat (first | refine VIf.tt ?_ | refine VIf.ff ?_)
  refine VIf.mk (fun _ => ?_) (fun q => absurd q (by rw [d0]; decide))
  repeat (first | refine VIf.tt ?_ | refine VIf.ff ?_)
  refine VFn.mk _ (Tidied07_fn _ r M2 (hvs.le hM2) hall (by omega)) ?_
  rintro rs M3 hM3 ⟨u, rfl, hu⟩
  obtain ⟨ua, uc, rfl⟩ := hu.shape
  repeat (first | refine VIf.tt ?_ | refine VIf.ff ?_)
  exact VFact.mk (fin1 _ _ (.inl d0) (by unfold farL; rw [if_pos d0]; exact hu)) trivial
 rw [if_neg d0] at hrs
 by_cases ho : innOK x d = true
 rotate_left
 ·rw [if_neg ho] at hrs
  subst hrs
  repeat (first | refine VIf.tt ?_ | refine VIf.ff ?_)
  refine VCode.of_vc cxOK ?_
  repeat refine VIf.mk (fun _ => ?_) (fun q => absurd q (by decide))
  repeat (first | refine VIf.tt ?_ | refine VIf.ff ?_)
  refine VFact.mk ?_ trivial
  unfold FarR
  rw [if_pos ⟨hR, hok⟩, if_neg (fun h => h.elim d0 ho)]
 rw [if_pos ho] at hrs
 obtain ⟨w, rfl, hw⟩ := hrs
 have hws := hw
 obtain ⟨wa, wc, rfl⟩ := hw.shape
 by_cases d1 : d = 1
 ·repeat (first | refine VIf.tt ?_ | refine VIf.ff ?_)
  refine VCode.of_vc cxOK ?_
  repeat refine VIf.mk (fun q => absurd q (by decide)) (fun _ => ?_)
  repeat (first | refine VIf.tt ?_ | refine VIf.ff ?_)
  refine VIf.mk (fun q => absurd q (by simpa using d0)) (fun _ => ?_)
  repeat (first | refine VIf.tt ?_ | refine VIf.ff ?_)
  refine VIf.mk (fun _ => ?_) (fun q => absurd q (by rw [d1]; decide))
  repeat (first | refine VIf.tt ?_ | refine VIf.ff ?_)
  refine VFn.mk _ (Without07_fn _ r x x M2 (hvs.le hM2) hall (by omega) hok.1 hok.1) ?_
  rintro rs M3 hM3 ⟨u, rfl, hu⟩
  obtain ⟨ua, uc, rfl⟩ := hu.shape
  repeat (first | refine VIf.tt ?_ | refine VIf.ff ?_)
  exact VFact.mk (fin1 _ _ (.inr ho) (by unfold farL; rw [if_neg d0, if_pos d1]; exact hu)) trivial
 have hd2 : 2 ≤ d ∧ d ≤ 100000 := by omega
 have hH := inn_halfs hok.1 hd2 ho
 have hq := innP_valid (by omega) ho
 have hfl : farL r x d = tidyB (farR r x d) := by unfold farL; rw [if_neg d0, if_neg d1]
 repeat (first | refine VIf.tt ?_ | refine VIf.ff ?_)
 refine VCode.st cxOK ?_
 repeat refine VIf.mk (fun q => absurd q (by decide)) (fun _ => ?_)
 repeat (first | refine VIf.tt ?_ | refine VIf.ff ?_)
 refine VCode.st cxOK ?_
 repeat (first | refine VIf.tt ?_ | refine VIf.ff ?_)
 refine VIf.mk (fun q => absurd q (by simpa using d0)) (fun _ => ?_)
 repeat (first | refine VIf.tt ?_ | refine VIf.ff ?_)
 refine VCode.st cxOK ?_
 repeat (first | refine VIf.tt ?_ | refine VIf.ff ?_)
 refine VIf.mk (fun q => absurd q (by simpa using d1)) (fun _ => ?_)
 repeat (first | refine VIf.tt ?_ | refine VIf.ff ?_)
 refine VCode.st cxOK ?_
 repeat (first | refine VIf.tt ?_ | refine VIf.ff ?_)
 refine VCode.seq ?_
 repeat (first | refine VIf.tt ?_ | refine VIf.ff ?_)
 refine VCode.st cxOK ?_
 repeat (first | refine VIf.tt ?_ | refine VIf.ff ?_)
 refine VCode.block ?_
 repeat (first | refine VIf.tt ?_ | refine VIf.ff ?_)
 refine VCode.loopC (Nat × List Value × Mem) (fun (⟨i, xs, M3⟩ : Nat × List Value × Mem) => ⟨[(0, .v (.slice ra r.length rk)), (9, .v (.slice wa (innP x d).length wc)), (12, .row 1), (13, .v (.int .i64 i))], [(0, some (.box 24 [.v (.int .i64 x.1), .v (.int .i64 x.2)])), (1, some (.row 27 1 xs.length xs))], 2, M3, 54, ⟨fun _ => none, none, fun _ => none⟩⟩)
  (fun (⟨i, xs, M3⟩ : Nat × List Value × Mem) => (M2.le M3 ∧ i ≤ r.length) ∧ PlsV M3 xs (farR (r.take i) x d)) (fun (⟨i, _, _⟩ : Nat × List Value × Mem) => r.length - i) (0, [], M2) ⟨⟨Mem.le_refl _, Nat.zero_le _⟩, PlsV.nil _⟩ (Wk.nil 12 27 1 rfl (Wk.mk' id (by repeat' constructor) (by repeat' constructor) (injOK_id _) rfl rfl rfl)) ?_
 rintro ⟨i, xs, M3⟩ ⟨⟨hM3, hi⟩, hxs⟩ m
 have hxl : xs.length ≤ 256 := by
  have h1 := hxs.1
  have h2 := farR_len (r.take i) x d
  rw [List.length_take] at h2
  omega
 have m3 := hM2.trans hM3
 repeat (first | refine VIf.tt ?_ | refine VIf.ff ?_)
 refine VCode.st cxOK ?_
 repeat (first | refine VIf.tt ?_ | refine VIf.ff ?_)
 refine VIf.mk (fun hlt => ?_) (fun hge => ?_)
 ·have hlt := lt_of_dec hlt
  obtain ⟨a1, w1, f1, p1, q1, c1⟩ := hrr M3 m3 i hlt
  have hV : validB (gr r i) = true := val_gr hall hlt
  have p1 : Pts M3 w1 (gr r i) := p1
  have hst := farR_take r x d hlt
  have hll : (leftA (gr r i) (innP x d)).length ≤ 64 := leftA_len _ _ (by have := innP_len (x := x) (d := d); omega)
  generalize gr r i = p at *
  repeat (first | refine VIf.tt ?_ | refine VIf.ff ?_)
  refine VCode.of_vc cxOK ?_
  repeat (first | refine VIf.tt ?_ | refine VIf.ff ?_)
  refine VIdx.mk a1 i f1 rfl hlt ?_
  repeat (first | refine VIf.tt ?_ | refine VIf.ff ?_)
  refine VRead.mk _ c1 ?_
  repeat (first | refine VIf.tt ?_ | refine VIf.ff ?_)
  refine VFn.mk _ (beyond19_fn w1 _ p (innP x d) M3 p1 (hws.le hM3) hV hq innP_len hH) ?_
  rintro rs M4 hM4 ⟨u, rfl, hu⟩
  obtain ⟨ys, hys, hpy⟩ := RegV.pls hu
  obtain ⟨ua, uc, rfl⟩ := hu.shape
  repeat (first | refine VIf.tt ?_ | refine VIf.ff ?_)
  refine VSl.mk _ _ hys ?_
  repeat (first | refine VIf.tt ?_ | refine VIf.ff ?_)
  refine VFact.mk (by simp; omega) ?_
  repeat (first | refine VIf.tt ?_ | refine VIf.ff ?_)
  refine VArith.ok (by first | omega | (simp only; omega)) (by first | omega | (simp only; omega)) ?_
  refine ⟨(i + 1, xs ++ ys, M4), ⟨⟨hM3.trans hM4, hlt⟩, ?_⟩, (by first | omega | (simp only; omega)), Wk.mk' (fun i => if i = 1 then 2 else i) (by repeat' constructor) ?_ (injOK_b rfl) rfl rfl rfl⟩
  ·rw [hst]
   exact (hxs.le hM4).app hpy
  ·have := hpy.1
   repeat' constructor
   all_goals (simp <;> omega)
 have : i = r.length := by have := ge_of_dec hge; omega
 subst this
 rw [List.take_length] at hxs
 repeat (first | refine VIf.tt ?_ | refine VIf.ff ?_)
 refine VCode.frz [12] ?_
 repeat (first | refine VIf.tt ?_ | refine VIf.ff ?_)
 refine VFz.mk fun u Bu M4 hM4 hu => ?_
 have hxs := hxs.le hM4
 have hreg := RegV.of' hu hxs.1 hxs
 obtain ⟨ua, uc, rfl⟩ := hreg.shape
 repeat (first | refine VIf.tt ?_ | refine VIf.ff ?_)
 refine VCode.of_vc cxOK ?_
 repeat (first | refine VIf.tt ?_ | refine VIf.ff ?_)
 refine VFn.mk _ (Tidied07_fn _ _ M4 hreg (farR_valid hall x d) (by have := farR_len r x d; omega)) ?_
 rintro rs M5 hM5 ⟨u2, rfl, hu2⟩
 obtain ⟨ub, ud, rfl⟩ := hu2.shape
 repeat (first | refine VIf.tt ?_ | refine VIf.ff ?_)
 exact VFact.mk (fin1 _ _ (.inr ho) (by rw [hfl]; exact hu2)) trivial
end Go.Proofs.YtdfhnemhkpplbaaGreatDoor
namespace Go.Proofs.YtdfhnemhkpplbaaGreatDoor
open Go Go.V Go.RowKit
theorem at19_fn (x y : Int) (M : Mem) : FnP Tryz.prog 15 [.int .i64 x, .int .i64 y] M [pt x y] := by
 refine Fn.of_vc cxOK Tryz.func15 rfl rfl rfl ?_
 repeat (first | refine VIf.tt ?_ | refine VIf.ff ?_)
 exact VFact.mk ⟨rfl, rfl⟩ trivial
theorem Square10_fn (a b : Pt) (M : Mem) (ha : placeB a = true) (hb : placeB b = true) : FnP Tryz.prog 19 [ptv a, ptv b] M [.int .i64 (distP a b)] := by
 have ha := place_box.1 ha
 have hb := place_box.1 hb
 have m1 := sq0 (a.1 - b.1)
 have m2 := sq0 (a.2 - b.2)
 have q : ∀ z : Int, -1000000 ≤ z → z ≤ 1000000 → z * z ≤ 1000000000000 := fun z h1 h2 => by
  have a1 := Int.mul_nonneg (show 0 ≤ 1000000 - z by omega) (show 0 ≤ 1000000 + z by omega)
  have e1 : (1000000 - z) * (1000000 + z) = 1000000000000 - z * z := by grind
  omega
 have q1 := q (a.1 - b.1) (by omega) (by omega)
 have q2 := q (a.2 - b.2) (by omega) (by omega)
 refine Fn.of_vc cxOK Tryz.func19 rfl rfl rfl ?_
 repeat (first | refine VIf.tt ?_ | refine VIf.ff ?_)
 refine VArith.ok (by first | omega | (simp only; omega)) (by first | omega | (simp only; omega)) ?_
 repeat (first | refine VIf.tt ?_ | refine VIf.ff ?_)
 refine VArith.ok (by first | omega | (simp only; omega)) (by first | omega | (simp only; omega)) ?_
 repeat (first | refine VIf.tt ?_ | refine VIf.ff ?_)
 refine VArith.ok (by first | omega | (simp only; omega)) (by first | omega | (simp only; omega)) ?_
 repeat (first | refine VIf.tt ?_ | refine VIf.ff ?_)
 refine VArith.ok (by first | omega | (simp only; omega)) (by first | omega | (simp only; omega)) ?_
 repeat (first | refine VIf.tt ?_ | refine VIf.ff ?_)
 refine VArith.ok (by first | omega | (simp only; omega)) (by first | omega | (simp only; omega)) ?_
 repeat (first | refine VIf.tt ?_ | refine VIf.ff ?_)
 refine VArith.ok (by first | omega | (simp only; omega)) (by first | omega | (simp only; omega)) ?_
 repeat (first | refine VIf.tt ?_ | refine VIf.ff ?_)
 refine VArith.ok (by first | omega | (simp only; omega)) (by first | omega | (simp only; omega)) ?_
 repeat (first | refine VIf.tt ?_ | refine VIf.ff ?_)
 exact VFact.mk ⟨rfl, rfl⟩ trivial
theorem Nearer19_fn (a b : Pt) (d : Int) (M : Mem) (ha : placeB a = true) (hb : placeB b = true) (hd : -100000 ≤ d ∧ d ≤ 100000) : FnP Tryz.prog 20 [ptv a, ptv b, .int .i64 d] M [.bool (decide (distP a b < d * d))] := by
 have m1 := sq0 d
 have m2 : d * d ≤ 10000000000 := by
  have a1 := Int.mul_nonneg (show 0 ≤ 100000 - d by omega) (show 0 ≤ 100000 + d by omega)
  have e1 : (100000 - d) * (100000 + d) = 10000000000 - d * d := by grind
  omega
 refine Fn.of_vc cxOK Tryz.func20 rfl rfl rfl ?_
 repeat (first | refine VIf.tt ?_ | refine VIf.ff ?_)
 refine VFn.p (Square10_fn a b M ha hb) ?_
 repeat (first | refine VIf.tt ?_ | refine VIf.ff ?_)
 refine VArith.ok (by first | omega | (simp only; omega)) (by first | omega | (simp only; omega)) ?_
 repeat (first | refine VIf.tt ?_ | refine VIf.ff ?_)
 exact VFact.mk ⟨rfl, rfl⟩ trivial
theorem single19_fn (v : Value) (l : List Pt) (M : Mem) (hv : Pts M v l) (h64 : i64P l) (hl : l.length ≤ 1000) : V.Fn Tryz.prog 24 [v] M fun rs M' => ∃ u, rs = [u] ∧ RegV M' u (l.map fun y => [y]) := by
 obtain ⟨ad, c, rfl⟩ := hv.shape
 obtain ⟨_, hm, hrd⟩ := hv.cellsOf
 refine Fn.of_vcode cxOK Tryz.func24 rfl rfl rfl ?_
 repeat (first | refine VIf.tt ?_ | refine VIf.ff ?_)
 refine VCode.st cxOK ?_
 repeat (first | refine VIf.tt ?_ | refine VIf.ff ?_)
 refine VCode.st cxOK ?_
 repeat (first | refine VIf.tt ?_ | refine VIf.ff ?_)
 refine VCode.seq ?_
 repeat (first | refine VIf.tt ?_ | refine VIf.ff ?_)
 refine VCode.st cxOK ?_
 repeat (first | refine VIf.tt ?_ | refine VIf.ff ?_)
 refine VCode.block ?_
 repeat (first | refine VIf.tt ?_ | refine VIf.ff ?_)
 refine VCode.loopC (Nat × List Value × Mem) (fun (⟨i, xs, M1⟩ : Nat × List Value × Mem) => ⟨[(0, .v (.slice ad l.length c)), (3, .row 0), (4, .v (.int .i64 i))], [(0, some (.row 27 1 xs.length xs))], 1, M1, 20, ⟨fun _ => none, none, fun _ => none⟩⟩)
  (fun (⟨i, xs, M1⟩ : Nat × List Value × Mem) => (M.le M1 ∧ i ≤ l.length) ∧ PlsV M1 xs ((l.take i).map fun y => [y])) (fun (⟨i, _, _⟩ : Nat × List Value × Mem) => l.length - i) (0, [], M) ⟨⟨Mem.le_refl _, Nat.zero_le _⟩, PlsV.nil _⟩ (Wk.nil 3 27 1 rfl (Wk.mk' id (by repeat' constructor) (by repeat' constructor) (injOK_id _) rfl rfl rfl)) ?_
 rintro ⟨i, xs, M1⟩ ⟨⟨hM1, hi⟩, hxs⟩ m
 have hxl : xs.length ≤ 1000 := by have := hxs.1; rw [List.length_map, List.length_take] at this; omega
 repeat (first | refine VIf.tt ?_ | refine VIf.ff ?_)
 refine VCode.st cxOK ?_
 repeat (first | refine VIf.tt ?_ | refine VIf.ff ?_)
 refine VIf.mk (fun hlt => ?_) (fun hge => ?_)
 ·have hlt := lt_of_dec hlt
  obtain ⟨ad', rfl, hp⟩ := hrd M1 hM1 i hlt
  have h6 := h64 i hlt
  have hst : (l.take (i + 1)).map (fun y => [y]) = (l.take i).map (fun y => [y]) ++ [[gp l i]] := by rw [take_gp l hlt, List.map_append]; rfl
  repeat (first | refine VIf.tt ?_ | refine VIf.ff ?_)
  refine VCode.of_vc cxOK ?_
  repeat (first | refine VIf.tt ?_ | refine VIf.ff ?_)
  refine VIdx.mk ad' i rfl rfl hlt ?_
  repeat (first | refine VIf.tt ?_ | refine VIf.ff ?_)
  refine VReads.mk [.int .i64 (gp l i).1, .int .i64 (gp l i).2] rfl hp ?_
  repeat (first | refine VIf.tt ?_ | refine VIf.ff ?_)
  refine VFz.mk fun x Bx M2 hM2 hx => ?_
  have hx : Pts M2 x [gp l i] := hx
  have hx64 : i64P [gp l i] := fun j hj => by
   have : j = 0 := by simp at hj; omega
   subst this; exact h6
  obtain ⟨xa, xc, rfl⟩ := hx.shape
  repeat (first | refine VIf.tt ?_ | refine VIf.ff ?_)
  refine VFact.mk (by show (xs.length + 1) * 24 ≤ 140737488355328; omega) ?_
  repeat (first | refine VIf.tt ?_ | refine VIf.ff ?_)
  refine VArith.ok (by first | omega | (simp only; omega)) (by first | omega | (simp only; omega)) ?_
  refine ⟨(i + 1, xs ++ [.slice xa [gp l i].length xc], M2), ⟨⟨hM1.trans hM2, hlt⟩, ?_⟩, (by first | omega | (simp only; omega)), Wk.mk' (fun i => if i = 0 then 3 else i) (by repeat' constructor) ?_ (injOK_b rfl) rfl rfl rfl⟩
  ·rw [hst]
   exact (hxs.le hM2).snoc hx hx64
  ·repeat' constructor
   all_goals simp
 ·have : i = l.length := by have := ge_of_dec hge; omega
  subst this
  rw [List.take_length] at hxs
  repeat (first | refine VIf.tt ?_ | refine VIf.ff ?_)
  refine VCode.of_vc cxOK ?_
  repeat (first | refine VIf.tt ?_ | refine VIf.ff ?_)
  refine VFz.mk fun u Bu M2 hM2 hu => ?_
  repeat (first | refine VIf.tt ?_ | refine VIf.ff ?_)
  refine VFact.mk ⟨u, rfl, ?_⟩ trivial
  have hxs := hxs.le hM2
  exact RegV.of' hu hxs.1 hxs
end Go.Proofs.YtdfhnemhkpplbaaGreatDoor
namespace Go.Proofs.YtdfhnemhkpplbaaGreatDoor
open Go Go.V Go.RowKit
def ex8 : List Pt := [(-10, 0), (-7, -7), (0, -10), (7, -7), (10, 0), (7, 7), (0, 10), (-7, 7)]
theorem ex_inn : innA 10 = ex8 := around_eq (hl_of_has (by decide +kernel) (by decide +kernel) (by decide +kernel))
theorem ex_inn0 : innA 0 = [(0, 0)] := around_eq (hl_of_has (by decide +kernel) (by decide +kernel) (by decide +kernel))
theorem ex_p : innP (0, 0) 11 = ex8 := by
 unfold innP
 rw [show (11 : Int) - 1 = 10 from rfl, ex_inn]; decide +kernel
theorem ex_q : innP (3, 4) 1 = [(3, 4)] := by
 unfold innP
 rw [show (1 : Int) - 1 = 0 from rfl, ex_inn0]; decide +kernel
theorem ex_ok1 : innOK (0, 0) 11 = true := (innOK_iff (by decide)).2 (by decide)
theorem ex_ok2 : innOK (3, 4) 1 = true := (innOK_iff (by decide)).2 (by decide)
theorem ex_ok3 : innOK (499999, 0) 9 = false := by
 cases h : innOK (499999, 0) 9 with
 | false => rfl
 | true => exact absurd ((innOK_iff (by decide)).1 h) (by decide)
theorem ex_far : farL [[(0, 0)], [(8, 7)], [(9, 9)]] (0, 0) 11 = [[(8, 7)], [(9, 9)]] := by
 unfold farL
 rw [if_neg (by decide), if_neg (by decide)]
 have e : farR [[(0, 0)], [(8, 7)], [(9, 9)]] (0, 0) 11 = (([(0, 0), (8, 7), (9, 9)] : List Pt).filter fun y => !hasB (innP (0, 0) 11) y).map fun y => [y] :=
  flat_if (l := [(0, 0), (8, 7), (9, 9)]) (f := fun y => hasB (innP (0, 0) 11) y) (g := fun p => leftA p (innP (0, 0) 11)) fun y hy => leftA_one (by decide) (by
   simp only [List.mem_cons, List.not_mem_nil, or_false] at hy
   rcases hy with rfl | rfl | rfl <;> decide) (by decide) ex_ok1
 rw [e, ex_p]
 decide +kernel
theorem inn_1 {rs : List Value} {M : Mem} (h : InnR (0, 0) 11 rs M) : ∃ u, rs = [u, .bool true, .int .i64 0] ∧ Pts M u ex8 := by
 unfold InnR at h
 rw [if_pos (by decide), if_neg (by decide), if_pos ex_ok1, ex_p] at h
 exact h
theorem inn_2 {rs : List Value} {M : Mem} (h : InnR (3, 4) 1 rs M) : ∃ u, rs = [u, .bool true, .int .i64 0] ∧ Pts M u [(3, 4)] := by
 unfold InnR at h
 rw [if_pos (by decide), if_neg (by decide), if_pos ex_ok2, ex_q] at h
 exact h
theorem inn_3 {rs : List Value} {M : Mem} (h : InnR (3, 4) 0 rs M) : rs = [.slice none 0 0, .bool false, .int .i64 0] := by
 unfold InnR at h
 rw [if_pos (by decide), if_pos (by decide)] at h
 exact h
theorem inn_4 {rs : List Value} {M : Mem} (h : InnR (499999, 0) 9 rs M) : rs = [.slice none 0 0, .bool false, .int .i64 3] := by
 unfold InnR at h
 rw [if_pos (by decide), if_neg (by decide), if_neg (by rw [ex_ok3]; decide)] at h
 exact h
theorem inn_5 {rs : List Value} {M : Mem} (h : InnR (0, 0) (-1) rs M) : rs = [.slice none 0 0, .bool false, .int .i64 1] := by
 unfold InnR at h
 rw [if_neg (by decide)] at h
 exact h
theorem far_1 {rs : List Value} {M : Mem} (h : FarR [[(0, 0)], [(8, 7)], [(9, 9)]] (0, 0) 11 rs M) : ∃ u, rs = [u, .int .i64 0] ∧ RegV M u [[(8, 7)], [(9, 9)]] := by
 unfold FarR at h
 rw [if_pos (by decide +kernel), if_pos (.inr ex_ok1), ex_far] at h
 exact h
set_option maxRecDepth 20000 in
set_option maxHeartbeats 4000000 in
theorem head19_fn (t : TypeId) (M : Mem) (hS : M 0 = some (.cells sgnC t (0, 0))) : V.Fn Tryz.prog 7 [] M fun rs M' => rs = [.bool true] := by
 have z : ∀ n : Int, -1000000 ≤ n → n ≤ 1000000 → i64r n := fun n h1 h2 => by unfold i64r; omega
 refine Fn.of_vcode cxOK Tryz.func7 rfl rfl rfl ?_
 repeat (first | refine VIf.tt ?_ | refine VIf.ff ?_)
 refine VCode.st cxOK ?_
 repeat (first | refine VIf.tt ?_ | refine VIf.ff ?_)
 refine VCode.st cxOK ?_
 repeat (first | refine VIf.tt ?_ | refine VIf.ff ?_)
 refine VFn.p (at19_fn 0 0 M) ?_
 repeat (first | refine VIf.tt ?_ | refine VIf.ff ?_)
 refine VFn.mk _ (InnerE_fn (0, 0) 11 t M hS ⟨z _ (by decide) (by decide), z _ (by decide) (by decide)⟩ (z _ (by decide) (by decide))) ?_
 intro rs M1 hM1 hrs
 obtain ⟨u1, rfl, hu1⟩ := inn_1 hrs
 obtain ⟨a1, k1, rfl⟩ := hu1.shape
 repeat (first | refine VIf.tt ?_ | refine VIf.ff ?_)
 refine VCode.st cxOK ?_
 repeat (first | refine VIf.tt ?_ | refine VIf.ff ?_)
 refine VFn.p (at19_fn 3 4 M1) ?_
 repeat (first | refine VIf.tt ?_ | refine VIf.ff ?_)
 refine VFn.mk _ (InnerE_fn (3, 4) 1 t M1 (hM1 _ _ hS) ⟨z _ (by decide) (by decide), z _ (by decide) (by decide)⟩ (z _ (by decide) (by decide))) ?_
 intro rs M2 hM2 hrs
 have m2 := hM1.trans hM2
 obtain ⟨u2, rfl, hu2⟩ := inn_2 hrs
 obtain ⟨a2, k2, rfl⟩ := hu2.shape
 repeat (first | refine VIf.tt ?_ | refine VIf.ff ?_)
 refine VCode.st cxOK ?_
 repeat (first | refine VIf.tt ?_ | refine VIf.ff ?_)
 refine VFn.p (at19_fn 3 4 M2) ?_
 repeat (first | refine VIf.tt ?_ | refine VIf.ff ?_)
 refine VFn.mk _ (InnerE_fn (3, 4) 0 t M2 (m2 _ _ hS) ⟨z _ (by decide) (by decide), z _ (by decide) (by decide)⟩ (z _ (by decide) (by decide))) ?_
 intro rs M3 hM3 hrs
 have m3 := m2.trans hM3
 obtain rfl := inn_3 hrs
 repeat (first | refine VIf.tt ?_ | refine VIf.ff ?_)
 refine VCode.st cxOK ?_
 repeat (first | refine VIf.tt ?_ | refine VIf.ff ?_)
 refine VFn.p (at19_fn 0 0 M3) ?_
 repeat (first | refine VIf.tt ?_ | refine VIf.ff ?_)
 refine VFn.p (at19_fn 8 7 M3) ?_
 repeat (first | refine VIf.tt ?_ | refine VIf.ff ?_)
 refine VFn.p (at19_fn 9 9 M3) ?_
 repeat (first | refine VIf.tt ?_ | refine VIf.ff ?_)
 refine VFz.mk fun x Bx M4 hM4 hx => ?_
 have hx : Pts M4 x [(0, 0), (8, 7), (9, 9)] := hx
 have hx64 : i64P [(0, 0), (8, 7), (9, 9)] := mem_64 (by decide)
 repeat (first | refine VIf.tt ?_ | refine VIf.ff ?_)
 refine VFn.mk _ (single19_fn x _ M4 hx hx64 (by decide)) ?_
 rintro rs M5 hM5 ⟨u5, rfl, hu5⟩
 have m5 := m3.trans (hM4.trans hM5)
 repeat (first | refine VIf.tt ?_ | refine VIf.ff ?_)
 refine VFn.p (at19_fn 0 0 M5) ?_
 repeat (first | refine VIf.tt ?_ | refine VIf.ff ?_)
 refine VFn.mk _ (FarE_fn u5 _ (0, 0) 11 t M5 (m5 _ _ hS) hu5 ⟨z _ (by decide) (by decide), z _ (by decide) (by decide)⟩ (z _ (by decide) (by decide))) ?_
 intro rs M6 hM6 hrs
 have m6 := m5.trans hM6
 obtain ⟨u6, rfl, hu6⟩ := far_1 hrs
 obtain ⟨a6, k6, rfl⟩ := hu6.shape
 repeat (first | refine VIf.tt ?_ | refine VIf.ff ?_)
 refine VCode.st cxOK ?_
 repeat (first | refine VIf.tt ?_ | refine VIf.ff ?_)
 refine VFn.p (at19_fn 499999 0 M6) ?_
 repeat (first | refine VIf.tt ?_ | refine VIf.ff ?_)
 refine VFn.mk _ (InnerE_fn (499999, 0) 9 t M6 (m6 _ _ hS) ⟨z _ (by decide) (by decide), z _ (by decide) (by decide)⟩ (z _ (by decide) (by decide))) ?_
 intro rs M7 hM7 hrs
 have m7 := m6.trans hM7
 obtain rfl := inn_4 hrs
 repeat (first | refine VIf.tt ?_ | refine VIf.ff ?_)
 refine VCode.st cxOK ?_
 repeat (first | refine VIf.tt ?_ | refine VIf.ff ?_)
 refine VFn.p (at19_fn 0 0 M7) ?_
 repeat (first | refine VIf.tt ?_ | refine VIf.ff ?_)
 refine VFn.mk _ (InnerE_fn (0, 0) (-1) t M7 (m7 _ _ hS) ⟨z _ (by decide) (by decide), z _ (by decide) (by decide)⟩ (z _ (by decide) (by decide))) ?_
 intro rs M8 hM8 hrs
 obtain rfl := inn_5 hrs
 repeat (first | refine VIf.tt ?_ | refine VIf.ff ?_)
 refine VCode.st cxOK ?_
 repeat refine VIf.mk (fun _ => ?_) (fun q => absurd q (by decide))
 repeat (first | refine VIf.tt ?_ | refine VIf.ff ?_)
 refine VCode.st cxOK ?_
 repeat refine VIf.mk (fun _ => ?_) (fun q => absurd q (by decide))
 repeat (first | refine VIf.tt ?_ | refine VIf.ff ?_)
 refine VFn.p (at19_fn (-10) (0) M8) ?_
 repeat (first | refine VIf.tt ?_ | refine VIf.ff ?_)
 refine VFn.p (at19_fn (-7) (-7) M8) ?_
 repeat (first | refine VIf.tt ?_ | refine VIf.ff ?_)
 refine VFn.p (at19_fn (0) (-10) M8) ?_
 repeat (first | refine VIf.tt ?_ | refine VIf.ff ?_)
 refine VFn.p (at19_fn (7) (-7) M8) ?_
 repeat (first | refine VIf.tt ?_ | refine VIf.ff ?_)
 refine VFn.p (at19_fn (10) (0) M8) ?_
 repeat (first | refine VIf.tt ?_ | refine VIf.ff ?_)
 refine VFn.p (at19_fn (7) (7) M8) ?_
 repeat (first | refine VIf.tt ?_ | refine VIf.ff ?_)
 refine VFn.p (at19_fn (0) (10) M8) ?_
 repeat (first | refine VIf.tt ?_ | refine VIf.ff ?_)
 refine VFn.p (at19_fn (-7) (7) M8) ?_
 repeat (first | refine VIf.tt ?_ | refine VIf.ff ?_)
 refine VFz.mk fun y By M9 hM9 hy => ?_
 have hy : Pts M9 y ex8 := hy
 obtain ⟨ya, yk, rfl⟩ := hy.shape
 have m89 := hM8.trans hM9
 repeat (first | refine VIf.tt ?_ | refine VIf.ff ?_)
 refine VFn.p (Same_fn _ _ _ _ M9 (hu1.le (hM2.trans (hM3.trans (hM4.trans (hM5.trans (hM6.trans (hM7.trans m89))))))) hy) ?_
 repeat (first | refine VIf.tt ?_ | refine VIf.ff ?_)
 refine VCode.of_vc cxOK ?_
 repeat refine VIf.mk (fun _ => ?_) (fun q => absurd q (by simp))
 repeat (first | refine VIf.tt ?_ | refine VIf.ff ?_)
 refine VFn.p (at19_fn 3 4 M9) ?_
 repeat (first | refine VIf.tt ?_ | refine VIf.ff ?_)
 refine VFz.mk fun w Bw M10 hM10 hw => ?_
 have hw : Pts M10 w [(3, 4)] := hw
 obtain ⟨wa, wk, rfl⟩ := hw.shape
 repeat (first | refine VIf.tt ?_ | refine VIf.ff ?_)
 refine VFn.p (Same_fn _ _ _ _ M10 (hu2.le (hM3.trans (hM4.trans (hM5.trans (hM6.trans (hM7.trans (m89.trans hM10))))))) hw) ?_
 repeat refine VIf.mk (fun _ => ?_) (fun q => absurd q (by simp))
 repeat (first | refine VIf.tt ?_ | refine VIf.ff ?_)
 refine VFn.p (at19_fn 8 7 M10) ?_
 repeat (first | refine VIf.tt ?_ | refine VIf.ff ?_)
 refine VFn.p (at19_fn 9 9 M10) ?_
 repeat (first | refine VIf.tt ?_ | refine VIf.ff ?_)
 refine VFz.mk fun s Bs M11 hM11 hs => ?_
 have hs : Pts M11 s [(8, 7), (9, 9)] := hs
 repeat (first | refine VIf.tt ?_ | refine VIf.ff ?_)
 refine VFn.mk _ (single19_fn s _ M11 hs (mem_64 (by decide)) (by decide)) ?_
 rintro rs M12 hM12 ⟨u12, rfl, hu12⟩
 repeat (first | refine VIf.tt ?_ | refine VIf.ff ?_)
 refine VFn.p (Same07_fn _ _ _ _ M12 (hu6.le (hM7.trans (m89.trans (hM10.trans (hM11.trans hM12))))) hu12) ?_
 repeat (first | refine VIf.tt ?_ | refine VIf.ff ?_)
 refine VFact.mk ?_ trivial
 show [Value.bool _] = [Value.bool true]
 rw [decide_eq_true (by rfl)]
end Go.Proofs.YtdfhnemhkpplbaaGreatDoor
namespace Go.Proofs.YtdfhnemhkpplbaaGreatDoor.absentKeeps
open Go Go.V Go.RowKit
set_option maxRecDepth 20000 in
set_option maxHeartbeats 4000000 in
theorem law' (v : Value) (r : List (List Pt)) (x : Pt) (d : Int) (y : Pt) (t : TypeId) (M : Mem) (hS : M 0 = some (.cells sgnC t (0, 0))) (hr : RegV M v r) (hx : i64r x.1 ∧ i64r x.2) (hd : i64r d) (hy : i64r y.1 ∧ i64r y.2) :
  V.Fn Tryz.prog 5 [v, ptv x, .int .i64 d, ptv y] M fun rs _ => rs = [.bool true] := by
 have hF := fun M' (hM : M.le M') => Few07_fn v r M' (hr.le hM)
 have hVr := fun M' (hM : M.le M') => regValidR_fn v r M' (hr.le hM)
 have hrs0 := hr
 obtain ⟨ra, rk, rfl, _, _⟩ := hr.get
 refine Fn.of_vcode cxOK Tryz.func5 rfl rfl rfl ?_
 repeat (first | refine VIf.tt ?_ | refine VIf.ff ?_)
 refine VCode.st cxOK ?_
 repeat (first | refine VIf.tt ?_ | refine VIf.ff ?_)
 refine VCode.st cxOK ?_
 repeat (first | refine VIf.tt ?_ | refine VIf.ff ?_)
 refine VFn.mk _ (head19_fn t M hS) ?_
 rintro rs M1 hM1 rfl
 repeat (first | refine VIf.tt ?_ | refine VIf.ff ?_)
 refine VCode.st cxOK ?_
 repeat (first | refine VIf.tt ?_ | refine VIf.ff ?_)
 refine VIf.mk (fun e1 => ?_) (fun e1 => ?_)
 ·repeat (first | refine VIf.tt ?_ | refine VIf.ff ?_)
  exact VFact.mk rfl trivial
 repeat (first | refine VIf.tt ?_ | refine VIf.ff ?_)
 refine VFn.mk _ (hF M1 hM1) ?_
 rintro rs M2 hM2 ⟨b, rfl⟩
 have m2 := hM1.trans hM2
 repeat (first | refine VIf.tt ?_ | refine VIf.ff ?_)
 refine VIf.mk (fun e2 => ?_) (fun e2 => ?_)
 ·repeat (first | refine VIf.tt ?_ | refine VIf.ff ?_)
  exact VFact.mk rfl trivial
 repeat (first | refine VIf.tt ?_ | refine VIf.ff ?_)
 refine VFn.p (hVr M2 m2) ?_
 repeat (first | refine VIf.tt ?_ | refine VIf.ff ?_)
 refine VIf.mk (fun e3 => ?_) (fun e3 => ?_)
 ·repeat (first | refine VIf.tt ?_ | refine VIf.ff ?_)
  exact VFact.mk rfl trivial
 have hR := bn2 e3
 repeat (first | refine VIf.tt ?_ | refine VIf.ff ?_)
 refine VFn.p (Place_is (x := y) rfl) ?_
 repeat (first | refine VIf.tt ?_ | refine VIf.ff ?_)
 refine VIf.mk (fun e4 => ?_) (fun e4 => ?_)
 ·repeat (first | refine VIf.tt ?_ | refine VIf.ff ?_)
  exact VFact.mk rfl trivial
 have hPy : placeB y = true := bn2 e4
 have hall : ∀ p ∈ r, validB p = true := by
  simp only [regionB, Bool.and_eq_true] at hR
  exact fun p hp => List.all_eq_true.1 hR.2 p hp
 repeat (first | refine VIf.tt ?_ | refine VIf.ff ?_)
 refine VCode.st cxOK ?_
 repeat (first | refine VIf.tt ?_ | refine VIf.ff ?_)
 refine VFn.mk _ (FarE_fn _ r x d t M2 (m2 _ _ hS) (hrs0.le m2) hx hd) ?_
 intro rs M3 hM3 hrs
 have m3 := m2.trans hM3
 unfold FarR at hrs
 by_cases hok : placeB x = true ∧ (0 ≤ d ∧ d ≤ 100000)
 rotate_left
 ·rw [if_neg (fun h => hok h.2)] at hrs
  subst hrs
  repeat (first | refine VIf.tt ?_ | refine VIf.ff ?_)
  refine VCode.of_vc cxOK ?_
  repeat' (first | refine VIf.tt ?_ | refine VIf.ff ?_ | refine VIf.mk (fun _ => ?_) (fun q => absurd q (by decide)) | exact VFact.mk rfl trivial)
 rw [if_pos ⟨hR, hok⟩] at hrs
 by_cases ho : d = 0 ∨ innOK x d = true
 rotate_left
 ·rw [if_neg ho] at hrs
  subst hrs
  repeat (first | refine VIf.tt ?_ | refine VIf.ff ?_)
  refine VCode.of_vc cxOK ?_
  repeat' (first | refine VIf.tt ?_ | refine VIf.ff ?_ | refine VIf.mk (fun _ => ?_) (fun q => absurd q (by decide)) | exact VFact.mk rfl trivial)
 rw [if_pos ho] at hrs
 obtain ⟨u, rfl, hu⟩ := hrs
 obtain ⟨ua, uk, rfl⟩ := hu.shape
 have hfr := farL_region hall x d
 have hfv := (farL_valid hall x d).1
 repeat (first | refine VIf.tt ?_ | refine VIf.ff ?_)
 refine VCode.st cxOK ?_
 repeat refine VIf.mk (fun q => absurd q (by decide)) (fun _ => ?_)
 repeat (first | refine VIf.tt ?_ | refine VIf.ff ?_)
 refine VCode.st cxOK ?_
 repeat (first | refine VIf.tt ?_ | refine VIf.ff ?_)
 refine VFn.mk _ (regHas_is hu hfr hPy rfl) ?_
 rintro rs M4 hM4 rfl
 have m4 := m3.trans hM4
 repeat (first | refine VIf.tt ?_ | refine VIf.ff ?_)
 refine VCode.of_vc cxOK ?_
 repeat refine VIf.mk (fun _ => ?_) (fun q => absurd q (by simp))
 repeat (first | refine VIf.tt ?_ | refine VIf.ff ?_)
 refine VFn.p (In07_fn _ r y M4 (hrs0.le m4) hall hPy) ?_
 have hk := fun (hh : regB r y = true) (hn : d * d ≤ distP x y) => farL_keeps hall hok.1 hok.2 (fun h => ho.resolve_left (by omega)) hh hn
 have hkk : regB (farL r x d) y = ((farL r x d).any fun p => hasB p (y.fst, y.snd)) := rfl
 rw [hkk] at hk
 generalize ((farL r x d).any fun p => hasB p (y.fst, y.snd)) = w at hk ⊢
 generalize hgb : regB r y = b5 at hk ⊢
 repeat (first | refine VIf.tt ?_ | refine VIf.ff ?_)
 refine VIf.mk (fun e7 => ?_) (fun e7 => ?_)
 ·repeat' (first | refine VIf.tt ?_ | refine VIf.ff ?_ | refine VIf.mk (fun _ => ?_) (fun q => absurd q (by simp)))
  repeat (first | refine VIf.tt ?_ | refine VIf.ff ?_)
  exact VFact.mk rfl trivial
 obtain rfl : b5 = true := by simpa using e7
 repeat (first | refine VIf.tt ?_ | refine VIf.ff ?_)
 refine VFn.p (Nearer19_fn x y d M4 hok.1 hPy (by omega)) ?_
 by_cases hn : distP x y < d * d
 ·rw [decide_eq_true hn]
  repeat' (first | refine VIf.tt ?_ | refine VIf.ff ?_ | refine VIf.mk (fun _ => ?_) (fun q => absurd q (by simp)))
  repeat (first | refine VIf.tt ?_ | refine VIf.ff ?_)
  exact VFact.mk rfl trivial
 ·rw [decide_eq_false hn]
  obtain rfl : w = true := hk rfl (by omega)
  repeat' (first | refine VIf.tt ?_ | refine VIf.ff ?_ | refine VIf.mk (fun _ => ?_) (fun q => absurd q (by simp)) | refine VIf.mk (fun q => absurd q (by simp)) (fun _ => ?_))
  repeat (first | refine VIf.tt ?_ | refine VIf.ff ?_)
  exact VFact.mk rfl trivial
theorem law_fn (v : Value) (r : List (List Pt)) (x1 x2 d y1 y2 : Int) (M : Mem) {t : TypeId} (hS : M 0 = some (.cells sgnC t (0, 0))) (hr : RegV M v r) (k1 : i64r x1) (k2 : i64r x2) (hd : i64r d) (k3 : i64r y1) (k4 : i64r y2) :
  V.Fn Tryz.prog 5 [v, .agg #[.int .i64 x1, .int .i64 x2], .int .i64 d, .agg #[.int .i64 y1, .int .i64 y2]] M fun rs _ => rs = [.bool true] :=
 law' v r (x1, x2) d (y1, y2) t M hS hr ⟨k1, k2⟩ hd ⟨k3, k4⟩
end Go.Proofs.YtdfhnemhkpplbaaGreatDoor.absentKeeps
namespace Go.Proofs.YtdfhnemhkpplbaaGreatDoor.absentKeeps
open Go Go.V Go.RowKit Go.ChangeShapes Go.WideShapes Go.ChangeAt
set_option linter.unusedVariables false
set_option maxRecDepth 100000 in
theorem lifted (os : Os) (started : os.Started) (H : Type) (enc : TypeId × Value → H) :
  ReturnsInHanded {} Tryz.checked os 5 .any (fun w args => (Rows.absentKeepsSpec.pre enc Tryz.prog Tryz.f5 [] false w args ∧ laidMetH Tryz.prog sgnLaid w) ∧ sizedMet enc Tryz.prog Tryz.f5 (OpenSpec.ofChange Rows.absentKeepsSpec) false w args) (Rows.absentKeepsSpec.post enc Tryz.prog Tryz.f5 false true false false) := by
 refine returnsInHanded_of_change_and (C := Tryz.checked) (X := fun w _ => laidMetH Tryz.prog sgnLaid w) (fun _ _ _ hh h => h.of_heap hh) own started (by kernel_rfl) Tryz.func5
  (ChangeSpec.witness_shaped (enc := enc) (C := Tryz.checked) (os := os) (X := fun w _ => laidMetH Tryz.prog sgnLaid w) false (World.doorLaid Tryz.prog 400 os) #[.slice none 0 0, .agg #[.int .i64 0, .int .i64 0], .int .i64 0, .agg #[.int .i64 0, .int .i64 0]] 8 rfl (World.shaped_of_RefB (by kernel_rfl) (by kernel_rfl)) (by kernel_rfl) (by kernel_rfl) (by kernel_rfl) (sgn_met os _)) ?_
 intro W base args ds gs before hval0 hW _ _ hL _
 obtain ⟨gt, hG⟩ := signs_of hL
 have hval : ∀ (j : Nat) t v, Tryz.f5.params[j]? = some t → args[j]? = some v → Value.okWide Tryz.prog W .any base t v := hval0
 have hW' := hW
 obtain ⟨p, q, hA0, hV, rfl, hfz, hnd⟩ := hW
 have hA : DataW.TrodAll enc Tryz.prog W 0 (fun _ => true) true Tryz.f5.params.toList args.toList ds p := hA0
 have hA1 := hA
 rw [Tryz.params5] at hA hval
 obtain ⟨v0, vs0, d0, ds0, p0, q0, hargs, rfl, rfl, h0, r0⟩ := trodAll_cons hA
 obtain ⟨v1, vs1, d1, ds1, p1, q1, rfl, rfl, rfl, h1, r1⟩ := trodAll_cons r0
 obtain ⟨v2, vs2, d2, ds2, p2, q2, rfl, rfl, rfl, h2, r2⟩ := trodAll_cons r1
 obtain ⟨v3, vs3, d3, ds3, p3, q3, rfl, rfl, rfl, h3, r3⟩ := trodAll_cons r2
 obtain ⟨rfl, rfl, rfl⟩ := trodAll_nil r3
 obtain rfl : args = #[v0, v1, v2, v3] := by cases args; simp_all
 obtain ⟨rfl, rfl⟩ := trodVars_none hV
 obtain ⟨a0, len0, cap0, rfl⟩ := okWide_slice Tryz.underlying22 (hval 0 22 v0 rfl rfl)
 obtain ⟨fuel0, t0⟩ := h0
 obtain ⟨l0, ⟨u0, e0, g0⟩, _⟩ := opens22 _ _ _ t0
 simp [Value.cells] at e0
 subst e0
 obtain ⟨ag1, rfl, _⟩ := okWide_struct Tryz.underlying24 (hval 1 24 v1 rfl rfl)
 obtain ⟨fuel1, t1⟩ := h1
 obtain ⟨l1, ⟨e1, k1, m1⟩, _⟩ := opens24 _ _ _ t1
 obtain ⟨ag1⟩ := ag1
 have e1 : ag1 = _ := e1
 subst e1
 obtain ⟨l2, rfl, rfl, rfl, k2⟩ := open_int Tryz.underlying3 (hval 2 3 v2 rfl rfl) h2
 obtain ⟨ag3, rfl, _⟩ := okWide_struct Tryz.underlying24 (hval 3 24 v3 rfl rfl)
 obtain ⟨fuel3, t3⟩ := h3
 obtain ⟨l3, ⟨e3, k3, m3⟩, _⟩ := opens24 _ _ _ t3
 obtain ⟨ag3⟩ := ag3
 have e3 : ag3 = _ := e3
 subst e3
 simp only [List.append_nil] at hW' hA1
 refine ((law_fn (.slice a0 len0 cap0) l0 l1.1 l1.2 l2 l3.1 l3.2 (memOf W) hG g0 (k1) (m1) (wf_i64 k2) (k3) (m3)).2 W (memOf_ok W)).mono fun e W' ⟨rs, M', he, hb, _, _, _, hr⟩ => ?_
 subst he hr
 exact ⟨_, rfl, post_of_below laid (by rw [Tryz.params5]; exact of_decide_eq_true (by kernel_rfl)) rfl hW' hA1
  (fun _ _ _ => (trodAll_cons_mk (shut_bool Tryz.underlying4 _) trodAll_mk0)) rfl rfl hb (ok_one (by kernel_rfl) rfl (okWide_bool_mk Tryz.underlying4 _))⟩
theorem proved : Rows.AbsentKeepsSaid :=
 OpenClaim.holds_of_wide 5 Tryz.f5 rfl rfl rfl rfl rfl rfl rfl ⟨rfl, rfl, rfl, rfl, rfl⟩ rfl rfl rfl rfl rfl (by kernel_rfl) Tryz.func5 (by kernel_rfl)
  (of_decide_eq_true (by kernel_rfl)) (by unfold Func.isWrapper; first | (rw [if_pos (by decide +kernel)]; kernel_rfl) | (rw [if_neg (by decide +kernel)]; exact ⟨rfl, rfl⟩))
  (fun os started H enc _ => lifted os started H enc)
theorem carded : Rows.AbsentKeepsCardSaid :=
 Claim7.holds_tied_plain_at .later [] [.data] true Rows.absentKeepsCard.stood.harness false
  proved (fun _ h => by cases h) (by kernel_rfl) (fun _ h => by cases h) absentKeeps_row_tie rfl ⟨rfl, rfl⟩ (by kernel_rfl) rfl
  (fun f fn hf hfn => by
   obtain rfl : f = 5 := Option.some.inj ((show Tryz.prog.funcNamed "landfall/landfalllaw19.AbsentKeeps" = some 5 by kernel_rfl).symm.trans hf) |>.symm
   obtain rfl : fn = Tryz.f5 := (Option.some.inj (Tryz.func5.symm.trans hfn)).symm
   exact ⟨by kernel_rfl, fun j t ht => by
    rw [Tryz.params5] at ht
    have hm : t ∈ [22, 24, 3, 24] := by simpa using Array.mem_of_getElem? ht
    have hall : ([22, 24, 3, 24].all fun u => !Tryz.prog.wantsStandIn u) = true := by kernel_rfl
    exact (show Tryz.prog.wantsStandIn t = false by simpa using List.all_eq_true.1 hall t hm)⟩)
  (by kernel_rfl)
#print axioms carded
end Go.Proofs.YtdfhnemhkpplbaaGreatDoor.absentKeeps
