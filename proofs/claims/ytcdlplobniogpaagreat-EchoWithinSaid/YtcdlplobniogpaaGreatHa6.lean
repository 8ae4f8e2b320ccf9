/- Contracts: cut.Within, and the reference's. -/
import Derived.Test.YtcdlplobniogpaaGreatHa5
import Derived.WalkKit
import Derived.Handy
import Derived.Lib.Hide
import Derived.WalkLawsBesides
import Derived.WalkSpells
import Derived.Deep.RegionHeld3
import Derived.Deep.Draws
import Derived.Sort.Grow
import Derived.Shelf.SlSortCmp.NoneTotal
set_option linter.unusedVariables false
set_option linter.unusedSimpArgs false
namespace Go.Proofs.YtcdlplobniogpaaGreat
open Go Go.V Go.RowKit
theorem len_eq (a b : Nat) : ((a : Int) == (b : Int)) = decide (a = b) := by rw [Bool.eq_iff_iff]; simp; omega
theorem injOK_one (r : Nat → Nat) (i : Nat) (e : Option OE) : injOK r [(i, e)] := ⟨fun j hj => by simp at hj, trivial⟩
theorem take_filter {α : Type} (d : α) (g : α → Bool) (l : List α) {i : Nat} (h : i < l.length) : (l.take (i + 1)).filter g = (l.take i).filter g ++ (if g (l.getD i d) = true then [l.getD i d] else []) := by
 rw [List.take_add_one, List.filter_append]
 simp [h, List.filter_cons]
theorem cellsP_snoc (l : List Pt) (p : Pt) : cellsP (l ++ [p]) = cellsP l ++ [.int .i64 p.1, .int .i64 p.2] := by simp [cellsP]
theorem flt_le {α : Type} (g : α → Bool) (l : List α) (i : Nat) : ((l.take i).filter g).length ≤ l.length := Nat.le_trans (List.length_filter_le _ _) (by rw [List.length_take]; omega)
theorem valid_len {ps : List Pt} (h : validB ps = true) : 1 ≤ ps.length ∧ ps.length ≤ 64 := by simp only [validB, Bool.and_eq_true, decide_eq_true_eq] at h; exact h.1.1
theorem allC_place {ps : List Pt} (h : allC ps) {i : Nat} (hi : i < ps.length) : placeB (gp ps i) = true := by
 simp only [placeB, Bool.and_eq_true]; exact ⟨isCb_iff.2 (h i hi).1, isCb_iff.2 (h i hi).2⟩
theorem isC_i64 {x : Int} (h : isC x) : i64r x := by unfold isC i64r at *; omega
theorem corners_fn (v w : Value) (ps qs : List Pt) (M : Mem) (hv : Pts M v ps) (hw : Pts M w qs) (hC : allC ps) (hl : ps.length ≤ 100000) (hq : validB qs = true) : V.Fn Tryz.prog 144 [v, w] M fun rs M' => ∃ u, rs = [u] ∧ Pts M' u (ps.filter (hasB qs)) := by
 obtain ⟨ad, c, rfl⟩ := hv.shape
 obtain ⟨_, hm, hrd⟩ := hv.cellsOf
 unfold maxLen at hm
 refine Fn.of_vc cxOK Tryz.func144 rfl rfl rfl ?_
 have hq64 : i64P qs := fun i hi => ⟨isC_i64 (allC_of hq i hi).1, isC_i64 (allC_of hq i hi).2⟩
 refine VCode.loop cxOK (Nat × Mem × List Pt)
  (fun s => ⟨[(0, .v (.slice ad ps.length c)), (1, .v w), (5, .row 0), (10, .v (.slice ad ps.length c)), (11, .v (.int .i64 ps.length)), (12, .v (.int .i64 s.1))], [(0, some (.row 44 2 s.2.2.length (cellsP s.2.2)))], 1, s.2.1, 29, ⟨fun _ => none, none, fun _ => none⟩⟩)
  (fun s => M.le s.2.1 ∧ s.1 ≤ ps.length ∧ s.2.2 = (ps.take s.1).filter (hasB qs)) (fun s => ps.length - s.1) (0, M, []) ⟨Mem.le_refl _, Nat.zero_le _, by simp⟩ ?_ ?_
 ·exact Wk.nil 5 44 2 rfl (Wk.mk' id (by repeat' constructor) (by repeat' constructor) (injOK_id _) rfl rfl rfl)
 rintro ⟨i, M1, F⟩ ⟨hM1, hi, hF⟩ m
 have hM1 : M.le M1 := hM1
 have hi : i ≤ ps.length := hi
 have hF : F = (ps.take i).filter (hasB qs) := hF
 have hFl : F.length ≤ ps.length := by rw [hF]; exact flt_le _ _ _
 refine VIf.mk (fun hlt => ?_) (fun hge => ?_)
 ·have hlt : i < ps.length := lt_of_dec hlt
  obtain ⟨ad', rfl, hpi⟩ := hrd M1 hM1 i hlt
  have hs := take_filter (0, 0) (hasB qs) ps hlt
  rw [← hF] at hs
  refine VIdx.mk ad' i rfl rfl hlt ?_
  refine VReads.mk [.int .i64 (gp ps i).1, .int .i64 (gp ps i).2] rfl hpi ?_
  refine VFn.mk _ (Has_fn w qs (gp ps i).1 (gp ps i).2 M1 (hw.le hM1) hq64 (isC_i64 (hC i hlt).1) (isC_i64 (hC i hlt).2)) ?_
  rintro rs M2 hM2 rfl
  rw [hq, allC_place hC hlt]
  refine VIf.mk (fun hb => ?_) (fun hb => ?_)
  ·refine VFact.mk (by simp only; omega) ?_
   refine VArith.ok (by first | omega | (simp only; omega)) (by first | omega | (simp only; omega)) ?_
   rw [show hasB qs (ps.getD i (0, 0)) = true from hb, if_pos rfl] at hs
   exact ⟨(i + 1, M2, F ++ [gp ps i]), ⟨hM1.trans hM2, hlt, hs.symm⟩, (by first | omega | (simp only; omega)), Wk.mk' (fun _ => 3) (by repeat' constructor) ⟨⟨rfl, rfl, rfl, by simp, cellsP_snoc F _⟩, trivial⟩ (injOK_one _ _ _) rfl rfl rfl⟩
  ·refine VArith.ok (by first | omega | (simp only; omega)) (by first | omega | (simp only; omega)) ?_
   rw [show hasB qs (ps.getD i (0, 0)) = false from hb] at hs
   exact ⟨(i + 1, M2, F), ⟨hM1.trans hM2, hlt, by simpa using hs.symm⟩, (by first | omega | (simp only; omega)), (Wk.mk' id (by repeat' constructor) (by repeat' constructor) (injOK_id _) rfl rfl rfl)⟩
 ·have : i = ps.length := by have := ge_of_dec hge; omega
  subst this
  refine VFz.mk fun x B M' hle hx => ?_
  refine VFact.mk ⟨x, rfl, ?_⟩ trivial
  rw [List.take_length] at hF
  rw [← hF]; exact hx
theorem Within_fn (v w : Value) (ps qs : List Pt) (M : Mem) (hv : Pts M v ps) (hw : Pts M w qs) (hp64 : i64P ps) (hq64 : i64P qs) : V.Fn Tryz.prog 170 [v, w] M fun rs _ => rs = if (validB ps && validB qs) = true then [.bool (withinB ps qs), .int .i64 0] else [.bool false, .int .i64 1] := by
 obtain ⟨ad, c, rfl⟩ := hv.shape
 refine Fn.of_vc cxOK Tryz.func170 rfl rfl rfl ?_
 refine VFn.mk _ (Valid_fn _ ps M hv hp64) ?_
 rintro rs M1 hM1 rfl
 refine VIf.mk (fun h1 => ?_) (fun h1 => ?_)
 ·repeat (first | refine VIf.tt ?_ | refine VIf.ff ?_)
  refine VFact.mk ?_ trivial
  rw [bn1 h1]; rfl
 repeat (first | refine VIf.tt ?_ | refine VIf.ff ?_)
 refine VFn.mk _ (Valid_fn _ qs M1 (hw.le hM1) hq64) ?_
 rintro rs M2 hM2 rfl
 repeat (first | refine VIf.tt ?_ | refine VIf.ff ?_)
 refine VIf.mk (fun h2 => ?_) (fun h2 => ?_)
 ·refine VFact.mk ?_ trivial
  rw [bn1 h2, Bool.and_false]; rfl
 have h1 := bn2 h1
 have h2 := bn2 h2
 have hl := valid_len h1
 refine VFn.mk _ (corners_fn _ w ps qs M2 (hv.le (hM1.trans hM2)) (hw.le (hM1.trans hM2)) (allC_of h1) (by omega) h2) ?_
 rintro rs M3 hM3 ⟨u, rfl, hu⟩
 obtain ⟨ud, uc, rfl⟩ := hu.shape
 refine VFact.mk ?_ trivial
 rw [h1, h2]
 show [Value.bool _, _] = [Value.bool _, _]
 rw [withinB, ← filter_len (hasB qs) ps, ← len_eq]
 try rfl
theorem CornersR_fn (v w : Value) (ps qs : List Pt) (M : Mem) (hv : Pts M v ps) (hw : Pts M w qs) (hC : allC ps) (hl : ps.length ≤ 100000) (hq : allC qs) : V.Fn Tryz.prog 164 [v, w] M fun rs M' => ∃ u, rs = [u] ∧ Pts M' u (ps.filter (hasB qs)) := by
 obtain ⟨ad, c, rfl⟩ := hv.shape
 obtain ⟨_, hm, hrd⟩ := hv.cellsOf
 unfold maxLen at hm
 refine Fn.of_vc cxOK Tryz.func164 rfl rfl rfl ?_
 refine VCode.loop cxOK (Nat × List Pt)
  (fun s => ⟨[(0, .v (.slice ad ps.length c)), (1, .v w), (5, .row 0), (6, .v (.int .i64 s.1))], [(0, some (.row 44 2 s.2.length (cellsP s.2)))], 1, M, 29, ⟨fun _ => none, none, fun _ => none⟩⟩)
  (fun s => s.1 ≤ ps.length ∧ s.2 = (ps.take s.1).filter (hasB qs)) (fun s => ps.length - s.1) (0, []) ⟨Nat.zero_le _, by simp⟩ ?_ ?_
 ·exact Wk.nil 5 44 2 rfl (Wk.mk' id (by repeat' constructor) (by repeat' constructor) (injOK_id _) rfl rfl rfl)
 rintro ⟨i, F⟩ ⟨hi, hF⟩ m
 have hi : i ≤ ps.length := hi
 have hF : F = (ps.take i).filter (hasB qs) := hF
 have hFl : F.length ≤ ps.length := by rw [hF]; exact flt_le _ _ _
 refine VIf.mk (fun hlt => ?_) (fun hge => ?_)
 ·have hlt : i < ps.length := lt_of_dec hlt
  obtain ⟨ad', rfl, hpi⟩ := hrd M (Mem.le_refl _) i hlt
  have hs := take_filter (0, 0) (hasB qs) ps hlt
  rw [← hF] at hs
  refine VIdx.mk ad' i rfl rfl hlt ?_
  refine VReads.mk [.int .i64 (gp ps i).1, .int .i64 (gp ps i).2] rfl hpi ?_
  refine VFn.p (Inside_fn w qs (gp ps i).1 (gp ps i).2 M hw hq (hC i hlt).1 (hC i hlt).2) ?_
  refine VIf.mk (fun hb => ?_) (fun hb => ?_)
  ·refine VIdx.mk ad' i rfl rfl hlt ?_
   refine VReads.mk [.int .i64 (gp ps i).1, .int .i64 (gp ps i).2] rfl hpi ?_
   refine VFact.mk (by simp only; omega) ?_
   refine VArith.ok (by first | omega | (simp only; omega)) (by first | omega | (simp only; omega)) ?_
   rw [show hasB qs (ps.getD i (0, 0)) = true from hb, if_pos rfl] at hs
   exact ⟨(i + 1, F ++ [gp ps i]), ⟨hlt, hs.symm⟩, (by first | omega | (simp only; omega)), Wk.mk' (fun _ => 2) (by repeat' constructor) ⟨⟨rfl, rfl, rfl, by simp, cellsP_snoc F _⟩, trivial⟩ (injOK_one _ _ _) rfl rfl rfl⟩
  ·refine VArith.ok (by first | omega | (simp only; omega)) (by first | omega | (simp only; omega)) ?_
   rw [show hasB qs (ps.getD i (0, 0)) = false from hb] at hs
   exact ⟨(i + 1, F), ⟨hlt, by simpa using hs.symm⟩, (by first | omega | (simp only; omega)), (Wk.mk' id (by repeat' constructor) (by repeat' constructor) (injOK_id _) rfl rfl rfl)⟩
 ·have : i = ps.length := by have := ge_of_dec hge; omega
  subst this
  refine VFz.mk fun x B M' hle hx => ?_
  refine VFact.mk ⟨x, rfl, ?_⟩ trivial
  rw [List.take_length] at hF
  rw [← hF]; exact hx
theorem Lies_fn (v w : Value) (ps qs : List Pt) (M : Mem) (hv : Pts M v ps) (hw : Pts M w qs) (hC : allC ps) (hl : ps.length ≤ 100000) (hq : allC qs) : V.Fn Tryz.prog 122 [v, w] M fun rs _ => rs = [.bool (withinB ps qs)] := by
 obtain ⟨ad, c, rfl⟩ := hv.shape
 refine Fn.of_vc cxOK Tryz.func122 rfl rfl rfl ?_
 refine VFn.mk _ (CornersR_fn _ w ps qs M hv hw hC hl hq) ?_
 rintro rs M3 hM3 ⟨u, rfl, hu⟩
 obtain ⟨ud, uc, rfl⟩ := hu.shape
 refine VFact.mk ?_ trivial
 rw [withinB, ← filter_len (hasB qs) ps, ← len_eq]
end Go.Proofs.YtcdlplobniogpaaGreat
namespace Go.Proofs.YtcdlplobniogpaaGreat
open Go Go.V Go.RowKit
end Go.Proofs.YtcdlplobniogpaaGreat
namespace Go.Proofs.YtcdlplobniogpaaGreat
open Go Go.V Go.RowKit
end Go.Proofs.YtcdlplobniogpaaGreat
namespace Go.Proofs.YtcdlplobniogpaaGreat
open Go Go.V Go.RowKit
end Go.Proofs.YtcdlplobniogpaaGreat
namespace Go.Proofs.YtcdlplobniogpaaGreat
open Go Go.V Go.RowKit
theorem Few07_fn (v : Value) (r : List (List Pt)) (M : Mem) (hv : RegV M v r) : V.Fn Tryz.prog 31 [v] M fun rs _ => ∃ b, rs = [.bool b] := by
 obtain ⟨ad, c, rfl, hm, hrd⟩ := hv.get
 refine Fn.of_vc cxOK Tryz.func31 rfl rfl rfl ?_
 refine VCode.loop cxOK (Nat × Int) (fun s => ⟨[(0, .v (.slice ad r.length c)), (3, .v (.int .i64 s.2)), (4, .v (.int .i64 s.1))], [], 0, M, 29, ⟨fun _ => none, none, fun _ => none⟩⟩)
  (fun s => s.1 ≤ r.length) (fun s => r.length - s.1) (0, 0) (Nat.zero_le _) (Wk.mk' id (by repeat' constructor) (by repeat' constructor) (injOK_id _) rfl rfl rfl) ?_
 rintro ⟨i, n⟩ hi m
 have hi : i ≤ r.length := hi
 have done : ∀ {b : Bool}, ∃ b', [Value.bool b] = [.bool b'] := fun {b} => ⟨b, rfl⟩
 refine VIf.mk (fun hlt => ?_) (fun hge => ?_)
 ·have hlt : i < r.length := lt_of_dec hlt
  repeat (first | refine VIf.tt ?_ | refine VIf.ff ?_)
  refine VIf.mk (fun h9 => ?_) (fun h9 => ?_)
  ·obtain ⟨ad', w, rfl, hp, _, hc1⟩ := hrd M (Mem.le_refl _) i hlt
   obtain ⟨wd, wc, rfl⟩ := hp.shape
   refine VIdx.mk ad' i rfl rfl hlt ?_
   refine VRead.mk _ hc1 ?_
   refine VArith.wr ?_
   refine VArith.ok (by first | omega | (simp only; omega)) (by first | omega | (simp only; omega)) ?_
   exact ⟨(i + 1, _), hlt, (by first | omega | (simp only; omega)), (Wk.mk' id (by repeat' constructor) (by repeat' constructor) (injOK_id _) rfl rfl rfl)⟩
  ·refine VIf.mk (fun hb => ?_) (fun hb => ?_)
   ·repeat (first | refine VIf.tt ?_ | refine VIf.ff ?_)
    exact VFact.mk done trivial
   ·repeat (first | refine VIf.tt ?_ | refine VIf.ff ?_)
    exact VFact.mk done trivial
 ·repeat (first | refine VIf.tt ?_ | refine VIf.ff ?_)
  refine VIf.mk (fun hb => ?_) (fun hb => ?_)
  ·repeat (first | refine VIf.tt ?_ | refine VIf.ff ?_)
   exact VFact.mk done trivial
  ·repeat (first | refine VIf.tt ?_ | refine VIf.ff ?_)
   exact VFact.mk done trivial
def DL {α : Type} (D : Mem → α → List Value → Prop) (M : Mem) : List α → List (List Value) → Prop
 | [], [] => True
 | x :: l, r :: rows => D M x r ∧ DL D M l rows
 | _, _ => False
theorem DL.get {α : Type} {D : Mem → α → List Value → Prop} {M : Mem} : ∀ {l : List α} {rows : List (List Value)}, DL D M l rows → rows.length = l.length ∧ ∀ (i : Nat) (x : α) (r : List Value), l[i]? = some x → rows[i]? = some r → D M x r
 | [], [], _ => ⟨rfl, fun i x r h => by simp at h⟩
 | x :: l, r :: rows, h => by
  obtain ⟨h1, h2⟩ := DL.get h.2
  refine ⟨by simp [h1], fun i y s hy hs => ?_⟩
  match i, hy, hs with
  | 0, hy, hs => simp at hy hs; subst hy hs; exact h.1
  | i + 1, hy, hs => exact h2 i y s (by simpa using hy) (by simpa using hs)
 | [], _ :: _, h => h.elim
 | _ :: _, [], h => h.elim
theorem Arr.of {α : Type} {D : Mem → α → List Value → Prop} {M : Mem} {k : Nat} {v : Value} {l : List α} (rows : List (List Value)) (hk : ∀ r ∈ rows, r.length = k) (h : SlAt M k v l.length rows.flatten) (hd : DL D M l rows) : Arr D M k v l :=
 ⟨rows, hd.get.1, hk, h, hd.get.2⟩
theorem SlAt.nil (M : Mem) (k : Nat) : SlAt M k (.slice none 0 0) 0 [] := ⟨none, 0, rfl, Nat.le_refl _, Nat.zero_le _, by simp, by simp, fun h => absurd h (Nat.lt_irrefl _)⟩
theorem IntsV.nil (M : Mem) : IntsV M (.slice none 0 0) [] := Arr.of [] (by simp) (SlAt.nil M 1) trivial
theorem RegV.of1 {M : Mem} {s p : Value} {ps : List Pt} (h : SlAt M 1 s 1 [p]) (hp : Pts M p ps) (h64 : i64P ps) : RegV M s [ps] :=
 Arr.of [[p]] (by simp) h ⟨⟨p, rfl, hp, h64⟩, trivial⟩
instance (x : Int) : Decidable (i64r x) := by unfold i64r; infer_instance
theorem SlAt.shape {M : Mem} {k n : Nat} {v : Value} {xs : List Value} (h : SlAt M k v n xs) : ∃ a c, v = .slice a n c := let ⟨a, c, e, _⟩ := h; ⟨a, c, e⟩
theorem Pts.nil (M : Mem) : Pts M (.slice none 0 0) [] := SlAt.nil M 2
end Go.Proofs.YtcdlplobniogpaaGreat
namespace Go.Proofs.YtcdlplobniogpaaGreat
open Go Go.V Go.RowKit
theorem regPlace_fn (x y : Int) (M : Mem) : FnP Tryz.prog 118 [pt x y] M [.bool (isCb x && isCb y)] := by
 refine Fn.of_vc cxOK Tryz.func118 rfl rfl rfl ?_
 repeat' (first | refine VIf.tt ?_ | refine VIf.ff ?_ | refine VIf.mk (fun _ => ?_) (fun _ => ?_) | refine VFact.mk ?_ trivial)
 all_goals (refine ⟨bool1 ?_, rfl⟩; simp only [isCb, Bool.and_eq_true, decide_eq_true_eq, decide_eq_false_iff_not, Bool.false_eq_true, false_iff] at *; omega)
end Go.Proofs.YtcdlplobniogpaaGreat
namespace Go.Proofs.YtcdlplobniogpaaGreat
open Go Go.V Go.RowKit
theorem IndexP_fn (v : Value) (ps : List Pt) (fid : Nat) (g : Pt → Bool) (M : Mem) (hv : Pts M v ps) (hg : ∀ i, i < ps.length → ∀ M', FnP Tryz.prog fid [ptv (gp ps i)] M' [.bool (g (gp ps i))]) :
  V.Fn Tryz.prog 174 [v, .func (.func fid) #[] #[]] M fun rs _ => ∃ k : Int, rs = [.int .i64 k] ∧ (0 ≤ k ↔ ps.any g = true) := by
 obtain ⟨ad, c, rfl⟩ := hv.shape
 obtain ⟨_, hm, hrd⟩ := hv.cellsOf
 unfold maxLen at hm
 refine Fn.of_vc cxOK Tryz.func174 rfl rfl rfl ?_
 refine VCode.loop cxOK Nat (fun i => ⟨[(0, .v (.slice ad ps.length c)), (1, .v (.func (.func fid) #[] #[])), (7, .v (.int .i64 ps.length)), (8, .v (.int .i64 i))], [], 0, M, 19, ⟨fun _ => none, none, fun _ => none⟩⟩)
  (fun i => i ≤ ps.length ∧ ∀ j, j < i → g (gp ps j) = false) (fun i => ps.length - i) 0 ⟨Nat.zero_le _, fun j hj => by simp at hj⟩ (Wk.mk' id (by repeat' constructor) (by repeat' constructor) (injOK_id _) rfl rfl rfl) ?_
 rintro i ⟨hi, hz⟩ m
 refine VIf.mk (fun hlt => ?_) (fun hge => ?_)
 ·have hlt := lt_of_dec hlt
  obtain ⟨ad', ead, hpi⟩ := hrd M (Mem.le_refl _) i hlt
  refine VIdx.mk ad' i ead rfl hlt ?_
  refine VReads.mk [.int .i64 (gp ps i).1, .int .i64 (gp ps i).2] rfl hpi ?_
  refine VFn.p (hg i hlt M) ?_
  refine VIf.mk (fun hc => ?_) (fun hc => ?_)
  ·refine VFact.mk ⟨i, rfl, ?_⟩ trivial
   have := any_getD (0, 0) g ps hlt hc
   simp [this]
  ·refine VArith.ok (by first | omega | (simp only; omega)) (by first | omega | (simp only; omega)) ?_
   refine ⟨i + 1, ⟨hlt, fun j hj => ?_⟩, (by first | omega | (simp only; omega)), (Wk.mk' id (by repeat' constructor) (by repeat' constructor) (injOK_id _) rfl rfl rfl)⟩
   by_cases e : j = i
   ·subst e; exact hc
   ·exact hz j (by omega)
 ·have : i = ps.length := by have := ge_of_dec hge; omega
  subst this
  refine VFact.mk ⟨-1, rfl, ?_⟩ trivial
  have := any_none (0, 0) g ps hz
  simp [this]
theorem ContainsP_fn (v : Value) (ps : List Pt) (fid : Nat) (g : Pt → Bool) (M : Mem) (hv : Pts M v ps) (hg : ∀ i, i < ps.length → ∀ M', FnP Tryz.prog fid [ptv (gp ps i)] M' [.bool (g (gp ps i))]) :
  V.Fn Tryz.prog 138 [v, .func (.func fid) #[] #[]] M fun rs _ => rs = [.bool (ps.any g)] := by
 obtain ⟨ad, c, rfl⟩ := hv.shape
 refine Fn.of_vc cxOK Tryz.func138 rfl rfl rfl ?_
 refine VFn.mk _ (IndexP_fn _ ps fid g M hv hg) ?_
 rintro rs M1 hM1 ⟨k, rfl, hk⟩
 refine VFact.mk (bool1 ?_) trivial
 rw [← hk]; simp
theorem Hull1_fn (p : Pt) (h1 : i64r p.1) (h2 : i64r p.2) (M : Mem) : FnP Tryz.prog 146 [ptv p] M [.bool (!placeB p)] := by
 refine Fn.of_vc cxOK Tryz.func146 rfl rfl rfl ?_
 refine VFn.p (isPlace_fn _ _ _ h1 h2) ?_
 exact VFact.mk ⟨rfl, rfl⟩ trivial
theorem Clone_fn (v : Value) (ps : List Pt) (M : Mem) (hv : Pts M v ps) (hn : 1 ≤ ps.length) (hn' : ps.length ≤ 100000) : V.Fn Tryz.prog 67 [v] M fun rs M' => ∃ u, rs = [u] ∧ Pts M' u ps := by
 obtain ⟨ad, c, rfl⟩ := hv.shape
 obtain ⟨_, hm, hrd⟩ := hv.cellsOf
 obtain ⟨ad', rfl, _⟩ := hrd M (Mem.le_refl _) 0 (by omega)
 refine Fn.of_vc cxOK Tryz.func67 rfl rfl rfl ?_
 repeat (first | refine VIf.tt ?_ | refine VIf.ff ?_)
 refine VSl.mk ps.length (cellsP ps) hv ?_
 refine VFact.mk (by simp only; omega) ?_
 refine VFz.mk fun x B M' hle hx => ?_
 refine VFact.mk ⟨x, rfl, ?_⟩ trivial
 have e : SlAt M' 2 x (0 + ps.length) ([] ++ cellsP ps) := hx
 rw [Nat.zero_add, List.nil_append] at e
 exact e
theorem insert1_fn (v : Value) (f : Nat) (M : Mem) : FnP Tryz.prog 195 [v, .int .i64 0, .int .i64 1, .func (.func f) #[] #[]] M [] := by
 refine Fn.of_vc cxOK Tryz.func195 rfl rfl rfl ?_
 refine VArith.ok (by first | omega | (simp only; omega)) (by first | omega | (simp only; omega)) ?_
 refine VCode.loop cxOK Unit (fun _ => ⟨[(2, .v (.int .i64 1)), (8, .v (.int .i64 1))], [], 0, M, 53, ⟨fun _ => none, none, fun _ => none⟩⟩) (fun _ => True) (fun _ => 0) () trivial (Wk.mk' id (by repeat' constructor) (by repeat' constructor) (injOK_id _) rfl rfl rfl) ?_
 rintro _ _ m
 repeat (first | refine VIf.tt ?_ | refine VIf.ff ?_)
 exact VFact.mk ⟨rfl, rfl⟩ trivial
theorem pdq1_fn (v : Value) (f : Nat) (l : Int) (M : Mem) : FnP Tryz.prog 190 [v, .int .i64 0, .int .i64 1, .int .i64 l, .func (.func f) #[] #[]] M [] := by
 refine Fn.of_vc cxOK Tryz.func190 rfl rfl rfl ?_
 refine VCode.loop cxOK Unit (fun _ => ⟨[(0, .v v), (1, .v (.int .i64 0)), (2, .v (.int .i64 1)), (4, .v (.func (.func f) #[] #[]))], [], 0, M, 148, ⟨fun _ => none, none, fun _ => none⟩⟩) (fun _ => True) (fun _ => 0) () trivial (Wk.mk' id (by repeat' constructor) (by repeat' constructor) (injOK_id _) rfl rfl rfl) ?_
 rintro _ _ m
 refine VArith.ok (by first | omega | (simp only; omega)) (by first | omega | (simp only; omega)) ?_
 repeat (first | refine VIf.tt ?_ | refine VIf.ff ?_)
 refine VFn.p (insert1_fn _ _ _) ?_
 exact VFact.mk ⟨rfl, rfl⟩ trivial
end Go.Proofs.YtcdlplobniogpaaGreat
namespace Go.Proofs.YtcdlplobniogpaaGreat
open Go Go.V Go.RowKit
set_option maxRecDepth 100000 in
set_option maxHeartbeats 1000000 in
theorem len64_one (w : World) : Calls Tryz.prog 112 #[.int .u64 1] w fun e w' => e = .returned (.int .i64 1) ∧ w' = w := by
 go_enter Tryz.func112, Tryz.ntmps112
 go_wp2
 go_ret
 exact ⟨by kernel_rfl, rfl⟩
set_option maxRecDepth 100000 in
set_option maxHeartbeats 1000000 in
theorem len_one_any (w : World) : Calls Tryz.prog 63 #[.int .u64 1] w fun e w' => e = .returned (.int .i64 1) ∧ w' = w := by
 go_enter Tryz.func63, Tryz.ntmps63
 go_wp2_with (go_at_call 112; refine (len64_one _).mono ?_; rintro e w' ⟨rfl, rfl⟩)
 go_ret
 exact ⟨by kernel_rfl, rfl⟩
theorem FnP.of_same {P : Program} {f : Nat} {args : List Value} {M : Mem} {vs : List Value} (he : Enters P f) (h : ∀ W, Calls P f args.toArray W fun e w' => e = .returned (ret vs) ∧ w' = W) : FnP P f args M vs :=
 ⟨he, fun W hW => (h W).mono fun e w' ⟨h1, h2⟩ => ⟨vs, M, h1, h2 ▸ Below.refl _ _, Mem.le_refl _, h2 ▸ hW, fun _ _ => rfl, rfl, rfl⟩⟩
theorem Len1_fn (M : Mem) : FnP Tryz.prog 63 [.int .u64 1] M [.int .i64 1] :=
 FnP.of_same (enters_of Tryz.func63 (by kernel_rfl) rfl) len_one_any
end Go.Proofs.YtcdlplobniogpaaGreat
namespace Go.Proofs.YtcdlplobniogpaaGreat
open Go Go.V Go.RowKit
theorem sort1_fn (ad : Option Addr) (c f : Nat) (M : Mem) : FnP Tryz.prog 178 [.slice ad 1 c, .func (.func f) #[] #[]] M [] := by
 refine Fn.of_vc cxOK Tryz.func178 rfl rfl rfl ?_
 refine VArith.ok (by first | omega | (simp only; omega)) (by first | omega | (simp only; omega)) ?_
 refine VFn.p (Len1_fn _) ?_
 refine VFn.p (pdq1_fn _ _ _ _) ?_
 exact VFact.mk ⟨rfl, rfl⟩ trivial
theorem compact1_fn (ad : Option Addr) (c : Nat) (M : Mem) : FnP Tryz.prog 140 [.slice ad 1 c] M [.slice ad 1 c] := by
 refine Fn.of_vc cxOK Tryz.func140 rfl rfl rfl ?_
 repeat (first | refine VIf.tt ?_ | refine VIf.ff ?_)
 exact VFact.mk ⟨rfl, rfl⟩ trivial
theorem around1_fn (v : Value) (p : Pt) (M : Mem) (hv : Pts M v [p]) : V.Fn Tryz.prog 147 [v] M fun rs M' => ∃ u, rs = [u] ∧ Pts M' u [p] := by
 refine Fn.of_vc cxOK Tryz.func147 rfl rfl rfl ?_
 refine VFn.mk _ (Clone_fn v [p] M hv (by simp) (by simp)) ?_
 rintro rs M1 hM1 ⟨u, rfl, hu⟩
 obtain ⟨ud, uc, rfl⟩ := hu.shape
 refine VFn.p (sort1_fn _ _ _ _) ?_
 refine VFn.p (compact1_fn _ _ _) ?_
 repeat (first | refine VIf.tt ?_ | refine VIf.ff ?_)
 exact VFact.mk ⟨_, rfl, hu⟩ trivial
theorem HullOne_fn (v : Value) (p : Pt) (M : Mem) (hv : Pts M v [p]) (h1 : i64r p.1) (h2 : i64r p.2) : V.Fn Tryz.prog 101 [v] M fun rs M' => if placeB p = true then ∃ u, rs = [u, .int .i64 0] ∧ Pts M' u [p] else rs = [.slice none 0 0, .int .i64 1] := by
 obtain ⟨ad, c, rfl⟩ := hv.shape
 refine Fn.of_vc cxOK Tryz.func101 rfl rfl rfl ?_
 repeat (first | refine VIf.tt ?_ | refine VIf.ff ?_)
 refine VFn.mk _ (ContainsP_fn _ [p] _ (fun p => !placeB p) M hv fun i hi M' => ?_) ?_
 ·have : i = 0 := by simp at hi; omega
  subst this
  exact Hull1_fn p h1 h2 M'
 rintro rs M1 hM1 rfl
 repeat (first | refine VIf.tt ?_ | refine VIf.ff ?_)
 refine VIf.mk (fun h => ?_) (fun h => ?_)
 ·refine VFact.mk ?_ trivial
  have h : placeB p = false := by simpa using h
  simp only [h, Bool.false_eq_true, if_false]
 ·have h : placeB p = true := by simpa using h
  refine VFn.mk _ (around1_fn _ p M1 (hv.le hM1)) ?_
  rintro rs M2 hM2 ⟨u, rfl, hu⟩
  obtain ⟨ud, uc, rfl⟩ := hu.shape
  repeat (first | refine VIf.tt ?_ | refine VIf.ff ?_)
  refine VFact.mk ?_ trivial
  simp only [h, if_true]
  exact ⟨_, rfl, hu⟩
end Go.Proofs.YtcdlplobniogpaaGreat
namespace Go.Proofs.YtcdlplobniogpaaGreat
open Go Go.RowKit Go.Sort
set_option maxHeartbeats 400000 in
theorem isNaN_any (x : Int) (w : World) :
  Calls Tryz.prog 153 #[.int .i64 x] w fun e w' => e = .returned (.bool false) ∧ w = w' := by
 go_enter Tryz.func153, Tryz.ntmps153
 go_wp2
 go_ret
 exact ⟨rfl, rfl⟩
set_option maxHeartbeats 400000 in
theorem cmpCompare_any (x y : Int) (w : World) :
  Calls Tryz.prog 168 #[.int .i64 x, .int .i64 y] w fun e w' => e = .returned (.int .i64 (cmpI x y)) ∧ w = w' := by
 go_enter Tryz.func168, Tryz.ntmps168
 go_wp2_with (go_at_call 153; refine (isNaN_any _ _).mono ?_; rintro e w' ⟨rfl, rfl⟩)
 all_goals
  go_ret
  exact ⟨by unfold cmpI; simp <;> omega, rfl⟩
set_option maxHeartbeats 400000 in
theorem cmpOr2_any (x y : Int) (w : World) (b : Nat) (h0 : w.cell? ⟨b, 0, none⟩ = some (.int .i64 x)) (h1 : w.cell? ⟨b, 1, none⟩ = some (.int .i64 y)) :
  Calls Tryz.prog 167 #[.slice (some ⟨b, 0, none⟩) 2 2] w fun e w' => e = .returned (.int .i64 (if x = 0 then y else x)) ∧ w = w' := by
 by_cases hx : x = 0
 ·subst hx
  by_cases hy : y = 0
  ·subst hy
   go_enter Tryz.func167, Tryz.ntmps167
   go_wp2
   go_rounds 3
   all_goals go_ret
   all_goals exact ⟨by simp, rfl⟩
  ·have hy1 : (y == 0) = false := by simp [hy]
   have hy2 : (y != 0) = true := by simp [hy]
   go_enter Tryz.func167, Tryz.ntmps167
   go_wp2
   go_rounds 3
   all_goals go_ret
   all_goals exact ⟨by simp, rfl⟩
 ·have hy2 : (x != 0) = true := by simp [hx]
  go_enter Tryz.func167, Tryz.ntmps167
  go_wp2
  go_rounds 2
  all_goals go_ret
  all_goals exact ⟨by simp [hx], rfl⟩
def cmpQ (ax ay bx by' : Int) : Int := if cmpI ax bx = 0 then cmpI ay by' else cmpI ax bx
theorem cmpOr2_is {x y r : Int} (hr : (if x = 0 then y else x) = r) (w : World) (b : Nat) (h0 : w.cell? ⟨b, 0, none⟩ = some (.int .i64 x)) (h1 : w.cell? ⟨b, 1, none⟩ = some (.int .i64 y)) :
  Calls Tryz.prog 167 #[.slice (some ⟨b, 0, none⟩) 2 2] w fun e w' => e = .returned (.int .i64 r) ∧ w = w' := hr ▸ cmpOr2_any x y w b h0 h1
set_option maxHeartbeats 2000000 in
set_option maxRecDepth 100000 in
theorem compare_any (ax ay bx by' r : Int) (hr : cmpQ ax ay bx by' = r) (w : World) :
  Calls Tryz.prog 131 #[.agg #[.int .i64 ax, .int .i64 ay], .agg #[.int .i64 bx, .int .i64 by']] w fun e w' => e = .returned (.int .i64 r) ∧ ∃ q os', w' = grow (w.drewN q) os' := by
 have h3 := fun W b => cmpOr2_is (x := cmpI ax bx) (y := cmpI ay by') hr W b
 clear hr
 go_enter Tryz.func131, Tryz.ntmps131
 go_wp2_with fail
 go_region_held3 (fun w' => w'.cell? ⟨w.heap.size, 0, none⟩ = some (.int .i64 ax) ∧ w'.cell? ⟨w.heap.size, 1, none⟩ = some (.int .i64 ay) ∧ w'.cell? ⟨w.heap.size + 1, 0, none⟩ = some (.int .i64 bx) ∧ w'.cell? ⟨w.heap.size + 1, 1, none⟩ = some (.int .i64 by')) 
  (first | go_keep | simp)
  (first | (go_at_call 168; refine (cmpCompare_any _ _ _).mono ?_; rintro e w' ⟨rfl, rfl⟩) | (go_at_call 167; refine (h3 _ _ (by go_cell) (by go_cell)).mono ?_; rintro e w' ⟨rfl, rfl⟩))
 go_wp2
 go_ret
 exact ⟨rfl, 1, #[.cells #[.int .i64 ax, .int .i64 ay] 44, .cells #[.int .i64 bx, .int .i64 by'] 44, .cells #[.int .i64 (cmpI ax bx), .int .i64 (cmpI ay by')] 3], by
  rw [alloc_eq_grow, alloc_eq_grow, alloc_eq_grow, grow_grow, grow_grow]; rfl⟩
set_option maxHeartbeats 1000000 in
theorem around1_any (ax ay bx by' r : Int) (hr : cmpQ ax ay bx by' = r) (w : World) :
  Calls Tryz.prog 179 #[.agg #[.int .i64 ax, .int .i64 ay], .agg #[.int .i64 bx, .int .i64 by']] w fun e w' => e = .returned (.int .i64 r) ∧ ∃ q os', w' = grow (w.drewN q) os' := by
 have h3 := fun W => compare_any ax ay bx by' r hr W
 clear hr
 go_enter Tryz.func179, Tryz.ntmps179
 go_wp2_with (go_at_call 131; refine (h3 _).mono ?_; rintro e w' ⟨rfl, q, os', rfl⟩)
 go_ret
 exact ⟨rfl, q, #[.cells #[.int .i64 ax, .int .i64 ay] 44, .cells #[.int .i64 bx, .int .i64 by'] 44] ++ os', by
  rw [alloc_eq_grow, alloc_eq_grow, show ∀ (a b : Array Obj), (grow (grow w a) b).drewN q = grow (grow (w.drewN q) a) b from fun _ _ => rfl, grow_grow, grow_grow]
  congr 1
  rw [← Array.append_assoc]; rfl⟩
end Go.Proofs.YtcdlplobniogpaaGreat
namespace Go.Proofs.YtcdlplobniogpaaGreat
open Go Go.V Go.RowKit Go.Sort Go.Shelf Go.Lib
def ptRen : Ren where
 f := fun
  | 6 => 178
  | 14 => 190
  | 15 => 63
  | 20 => 195
  | 21 => 196
  | 22 => 197
  | 23 => 198
  | 24 => 199
  | 25 => 200
  | 26 => 201
  | 27 => 202
  | 28 => 111
  | 29 => 112
  | 46 => 207
  | 47 => 149
  | 48 => 150
  | 49 => 208
  | 50 => 209
  | 57 => 212
  | n => n
 t := fun
  | 0 => 0
  | 3 => 3
  | 4 => 4
  | 5 => 5
  | 9 => 9
  | 22 => 64
  | 25 => 170
  | 39 => 103
  | 45 => 144
  | 46 => 145
  | 50 => 150
  | 53 => 153
  | 55 => 155
  | 66 => 179
  | 70 => 183
  | 76 => 206
  | 77 => 123
  | 24 => 44
  | n => n
 g := fun n => n
theorem ptLay : SlLaysF0.n6 Tryz.prog ptRen where
 mixed := rfl
 f6 := ⟨Tryz.f178.name, by kernel_rfl, Tryz.func178.trans (by kernel_rfl)⟩
 f14 := ⟨Tryz.f190.name, by kernel_rfl, Tryz.func190.trans (by kernel_rfl)⟩
 f15 := Tryz.func63.trans (by kernel_rfl)
 f20 := ⟨Tryz.f195.name, by kernel_rfl, Tryz.func195.trans (by kernel_rfl)⟩
 f21 := ⟨Tryz.f196.name, by kernel_rfl, Tryz.func196.trans (by kernel_rfl)⟩
 f22 := ⟨Tryz.f197.name, by kernel_rfl, Tryz.func197.trans (by kernel_rfl)⟩
 f23 := ⟨Tryz.f198.name, by kernel_rfl, Tryz.func198.trans (by kernel_rfl)⟩
 f24 := ⟨Tryz.f199.name, by kernel_rfl, Tryz.func199.trans (by kernel_rfl)⟩
 f25 := ⟨Tryz.f200.name, by kernel_rfl, Tryz.func200.trans (by kernel_rfl)⟩
 f26 := ⟨Tryz.f201.name, by kernel_rfl, Tryz.func201.trans (by kernel_rfl)⟩
 f27 := ⟨Tryz.f202.name, by kernel_rfl, Tryz.func202.trans (by kernel_rfl)⟩
 f28 := Tryz.func111.trans (by kernel_rfl)
 f29 := Tryz.func112.trans (by kernel_rfl)
 f46 := ⟨Tryz.f207.name, by kernel_rfl, Tryz.func207.trans (by kernel_rfl)⟩
 f47 := Tryz.func149.trans (by kernel_rfl)
 f48 := Tryz.func150.trans (by kernel_rfl)
 f49 := ⟨Tryz.f208.name, by kernel_rfl, Tryz.func208.trans (by kernel_rfl)⟩
 f50 := ⟨Tryz.f209.name, by kernel_rfl, Tryz.func209.trans (by kernel_rfl)⟩
 f57 := ⟨Tryz.f212.name, by kernel_rfl, Tryz.func212.trans (by kernel_rfl)⟩
 t0 := Tryz.underlying0
 a0 := Tryz.isAgg0
 z0 := Tryz.sizeOf0
 v0 := Tryz.zeroValue0
 t3 := Tryz.underlying3
 a3 := Tryz.isAgg3
 z3 := Tryz.sizeOf3
 v3 := Tryz.zeroValue3
 t4 := Tryz.underlying4
 a4 := Tryz.isAgg4
 z4 := Tryz.sizeOf4
 v4 := Tryz.zeroValue4
 t5 := Tryz.underlying5
 a5 := Tryz.isAgg5
 z5 := Tryz.sizeOf5
 v5 := Tryz.zeroValue5
 t9 := Tryz.underlying9
 a9 := Tryz.isAgg9
 z9 := Tryz.sizeOf9
 v9 := Tryz.zeroValue9
 t22 := Tryz.underlying64
 a22 := Tryz.isAgg64
 z22 := Tryz.sizeOf64
 v22 := Tryz.zeroValue64
 t25 := Tryz.underlying170
 a25 := Tryz.isAgg170
 z25 := Tryz.sizeOf170
 v25 := Tryz.zeroValue170
 t39 := Tryz.underlying103
 a39 := Tryz.isAgg103
 z39 := Tryz.sizeOf103
 v39 := Tryz.zeroValue103
 t45 := Tryz.underlying144
 a45 := Tryz.isAgg144
 z45 := Tryz.sizeOf144
 v45 := Tryz.zeroValue144
 t46 := Tryz.underlying145
 a46 := Tryz.isAgg145
 z46 := Tryz.sizeOf145
 v46 := Tryz.zeroValue145
 t50 := Tryz.underlying150
 a50 := Tryz.isAgg150
 z50 := Tryz.sizeOf150
 v50 := Tryz.zeroValue150
 t53 := Tryz.underlying153
 a53 := Tryz.isAgg153
 z53 := Tryz.sizeOf153
 v53 := Tryz.zeroValue153
 t55 := Tryz.underlying155
 a55 := Tryz.isAgg155
 z55 := Tryz.sizeOf155
 v55 := Tryz.zeroValue155
 t66 := Tryz.underlying179
 a66 := Tryz.isAgg179
 z66 := Tryz.sizeOf179
 v66 := Tryz.zeroValue179
 t70 := Tryz.underlying183
 a70 := Tryz.isAgg183
 z70 := Tryz.sizeOf183
 v70 := Tryz.zeroValue183
 t76 := Tryz.underlying206
 a76 := Tryz.isAgg206
 z76 := Tryz.sizeOf206
 v76 := Tryz.zeroValue206
 t77 := Tryz.underlying123
 a77 := Tryz.isAgg123
 z77 := Tryz.sizeOf123
 v77 := Tryz.zeroValue123
end Go.Proofs.YtcdlplobniogpaaGreat
namespace Go.Proofs.YtcdlplobniogpaaGreat
open Go Go.V Go.RowKit
theorem VCall.set {P : Program} {f : Nat} {args : List SV} {st : St} {K : SV → St → Prop} (he : Enters P f) {id E sz n : Nat} {xs ys : List Value} (hid : st.own id = some (.row E sz n xs)) (h1 : ∀ y ∈ ys, y.oneCell' = true)
  (h : ∀ n₀ W v ρ, slOf (ρ id) = v → W.ownsRow n₀ E sz v n xs → Calls P f (args.map (SV.den ρ)).toArray W fun e W' => e = .returned (.tuple #[]) ∧ W.grownBy W' (ob v) ∧ W'.ownsRow n₀ E sz v n ys)
  (hK : K (.v (.tuple #[])) { st with ow := (id, some (.row E sz n ys)) :: st.ow }) : VCall P f args st K := by
 refine ⟨he, fun n₀ w M₀ ρ W hS hsa hss => ?_⟩
 obtain ⟨g1, g2, g3, g4⟩ := hS.own id _ hid
 refine (h n₀ W (ρ id) ρ (ownsRow_isSl g3) g3).mono ?_
 rintro e W' ⟨rfl, k1, k2⟩
 refine ⟨.v (.tuple #[]), _, ρ, rfl, trivial, hS.set (e' := .row E sz n ys) hid k1 trivial ⟨k2, h1⟩, ?_, rfl, rfl, hK⟩
 exact fun d s hd => ⟨hss d s hd, s, hd, rfl⟩
section
open Go.Sort
def encP (p : Pt) : List Value := [.int .i64 p.1, .int .i64 p.2]
theorem cellsP_len (ps : List Pt) : (cellsP ps).length = ps.length * 2 := by
 induction ps with
 | nil => rfl
 | cons p l ih => simp only [cellsP, List.flatMap_cons, List.length_append] at *; simp [ih]; omega
theorem cellsP_enc (ps : List Pt) (t : Nat) (h : t < ps.length * 2) : (cellsP ps)[t]? = some (encP (ps.getD (t / 2) (0, 0)))[t % 2]! := by
 obtain ⟨g1, g2⟩ := cellsP_get ps (t / 2) (by omega)
 rcases Nat.mod_two_eq_zero_or_one t with e | e
 ·rw [show 2 * (t / 2) = t by omega] at g1
  rw [e, g1]; rfl
 ·rw [show 2 * (t / 2) + 1 = t by omega] at g2
  rw [e, g2]; rfl
theorem flatP (ps : List Pt) : flatK encP 2 ps.toArray = (cellsP ps).toArray := by
 refine ext_get! (by simp [cellsP_len]) fun t ht => ?_
 have ht' : t < ps.length * 2 := by simpa using ht
 rw [get_flatK _ _ _ _ (by simpa using ht')]
 have h1 := cellsP_enc ps t ht'
 have h2 : (cellsP ps).toArray[t]! = ((cellsP ps)[t]?).get! := by
  simp [getElem!_def]
  cases (cellsP ps)[t]? <;> rfl
 have h3 : (ps.toArray)[t / 2]! = ps.getD (t / 2) (0, 0) := by
  have : t / 2 < ps.length := by omega
  simp [getElem!_def, this]
 rw [h2, h1, h3]; rfl
theorem oneP {ps : List Pt} {y : Value} (hy : y ∈ cellsP ps) : y.oneCell' = true := by
 simp only [cellsP, List.mem_flatMap] at hy
 obtain ⟨p, _, hp⟩ := hy
 simp at hp
 rcases hp with rfl | rfl <;> rfl
def ltP (a b : Pt) : Bool := ltOf cmpPt a b
theorem ltP_iff (a b : Pt) : ltP a b = true ↔ a.1 < b.1 ∨ a.1 = b.1 ∧ a.2 < b.2 := by
 obtain ⟨a1, a2⟩ := a
 obtain ⟨b1, b2⟩ := b
 simp only [ltP, ltOf, cmpPt, cmpP, cmpI, decide_eq_true_eq]
 repeat' split
 all_goals omega
theorem ltP_ff (a b : Pt) : ltP a b = false ↔ ¬ (a.1 < b.1 ∨ a.1 = b.1 ∧ a.2 < b.2) := by rw [← ltP_iff]; simp
theorem swoP : SWO ltP where
 irrefl x := by rw [ltP_ff]; omega
 trans x y z h1 h2 := by rw [ltP_iff] at *; omega
 ntrans x y z h1 h2 := by rw [ltP_ff] at *; omega
theorem totP (x y : Pt) (h1 : ltP x y = false) (h2 : ltP y x = false) : x = y := by
 rw [ltP_ff] at *
 apply Prod.ext <;> omega
def sortP (ps : List Pt) : List Pt := ps.mergeSort fun x y => !ltP y x
theorem cmpLaysP (blk off size : Nat) (w : World) : CmpLays Tryz.prog 179 #[] encP 2 cmpPt blk off size w :=
 fun _ _ _ _ x y => around1_any x.1 x.2 y.1 y.2 _ (by simp only [cmpQ, cmpPt, cmpP]; by_cases h : cmpI x.1 y.1 = 0 <;> simp [h]) _
theorem sort_exact {n₀ : Nat} {W : World} {v : Value} {ps : List Pt} (hs : W.ownsRow n₀ 44 2 v ps.length (cellsP ps)) (hsz : ps.length < 4611686018427387904) :
  Calls Tryz.prog 178 #[v, .func (.func 179) #[] #[]] W fun e W' => e = .returned (.tuple #[]) ∧ W.grownBy W' (ob v) ∧ W'.ownsRow n₀ 44 2 v ps.length (cellsP (sortP ps)) := by
 obtain ⟨hlen, hcase⟩ := hs
 rcases hcase with ⟨rfl, h0⟩ | ⟨g, cap, cur, rfl, hg, hh, hnc, hcm, hcs, hct⟩
 ·have hp : ps = [] := List.eq_nil_of_length_eq_zero h0
  subst hp
  refine (AnyF.slices_SortFunc_none ptLay none 0 _ W).mono ?_
  rintro e W' ⟨rfl, rfl⟩
  refine ⟨rfl, ⟨rfl, rfl, rfl, Nat.le_refl _, fun _ _ _ => rfl⟩, ?_, .inl ⟨rfl, rfl⟩⟩
  simp [sortP, cellsP]
 ·have hlt : g < W.heap.size := (Array.getElem?_eq_some_iff.1 hh).1
  have hcur : ps.length * 2 ≤ cur.size := by rw [hcs]; exact Nat.mul_le_mul_right _ hnc
  have hH : HoldsK encP 2 W g 0 ps.toArray := by
   intro j hj
   rw [flatP] at hj ⊢
   have hj' : j < ps.length * 2 := by simpa [cellsP_len] using hj
   have h2 : id (cellsP ps).toArray[j]! = ((cellsP ps)[j]?).get! := by
    simp [getElem!_def]
    cases (cellsP ps)[j]? <;> rfl
   have h3 : cur[j]? = (cellsP ps)[j]? := by
    rw [← hct, List.getElem?_take, if_pos hj', Array.getElem?_toList]
   refine ⟨?_, ?_⟩
   ·rw [h2, ← h3, Nat.zero_add]
    have : j < cur.size := by omega
    simp [World.cell?, hh, this]
   ·simp [World.frozen?, hh]
  refine (AnyQ.slices_SortFunc_total ptLay 2 Tryz.isAgg44 Tryz.sizeOf44 encP (fun _ => rfl) (fun x v hv => by simp [encP] at hv; rcases hv with rfl | rfl <;> rfl) cmpPt swoP 179 #[] g 0 cap ps.toArray W
   (enters_of Tryz.func179 (by kernel_rfl) rfl) (cmpLaysP _ _ _ _) hH hlt (by simpa using hsz) (fun x y => totP x y)).mono ?_
  rintro e W' ⟨rfl, m, os, rfl⟩
  have hsl : (sortP ps).length = ps.length := List.length_mergeSort _
  have hrow : (sortWorldK encP 2 W g 0 m (ps.toArray.toList.mergeSort fun x y => !(ltOf cmpPt) y x).toArray os).heap[g]? = some (.cells (putCells id 0 (cellsP (sortP ps)).toArray cur) 44 (0, 0)) := by
   unfold sortWorldK putRowK putRow
   rw [flatP, heap_grow_old _ _ (by simp [mapBlock, Sort.ahead]; exact hlt)]
   simp only [mapBlock, Sort.ahead, Array.getElem?_modify, if_true]
   rw [hh]
   rfl
  refine ⟨rfl, ⟨rfl, rfl, rfl, ?_, ?_⟩, ?_, .inr ⟨g, cap, _, rfl, hg, hrow, hnc, hcm, ?_, ?_⟩⟩
  ·simp [sortWorldK, grow, putRowK, putRow, mapBlock, Sort.ahead]
  ·intro k hk hkg
   have hne : ¬ g = k := fun e => hkg (by subst e; rfl)
   unfold sortWorldK putRowK putRow
   rw [heap_grow_old _ _ (by simp [mapBlock, Sort.ahead]; exact hk)]
   simp only [mapBlock, Sort.ahead, Array.getElem?_modify, if_neg hne]
  ·rw [cellsP_len, hsl]
  ·simp [putCells, hcs]
  ·apply List.ext_getElem?
   intro i
   rw [List.getElem?_take]
   by_cases hi : i < ps.length * 2
   ·rw [if_pos hi]
    have h2 : (cellsP (sortP ps)).toArray[i]! = ((cellsP (sortP ps))[i]?).get! := by
     simp [getElem!_def]
     cases (cellsP (sortP ps))[i]? <;> rfl
    have h4 : i < (cellsP (sortP ps)).length := by rw [cellsP_len, hsl]; exact hi
    have h5 : i < cur.size := by omega
    simp only [putCells, Array.getElem?_toList, Array.getElem?_mapIdx, Nat.zero_le, Nat.zero_add, Nat.sub_zero, true_and, List.size_toArray, h4, if_true, id]
    rw [Array.getElem?_eq_getElem h5]
    simp [h4]
   ·rw [if_neg hi, List.getElem?_eq_none (by rw [cellsP_len, hsl]; omega)]
end
theorem Sort_call {id : Nat} {st : St} {K : SV → St → Prop} {n : Nat} {xs : List Value} {ps : List Pt} (hid : st.own id = some (.row 44 2 n xs)) (hn : n = ps.length) (hx : xs = cellsP ps) (hsz : ps.length < 4611686018427387904)
  (hK : K (.v (.tuple #[])) { st with ow := (id, some (.row 44 2 ps.length (cellsP (sortP ps)))) :: st.ow }) :
  VCall Tryz.prog 178 [.row id, .clo 179 [] []] st K := by
 subst hn; subst hx
 refine VCall.set (enters_of Tryz.func178 (by kernel_rfl) rfl) hid (fun y hy => oneP hy) (fun n₀ W v ρ hv hs => ?_) hK
 have := sort_exact hs hsz
 subst hv
 exact this
end Go.Proofs.YtcdlplobniogpaaGreat
namespace Go.Proofs.YtcdlplobniogpaaGreat
open Go Go.V Go.RowKit
def keepB (ps : List Pt) (i : Nat) : Bool := i == 0 || gp ps i != gp ps (i - 1)
def comp (ps : List Pt) (k : Nat) : List Pt := ((List.range k).filter (keepB ps)).map (gp ps)
def compactP (ps : List Pt) : List Pt := comp ps ps.length
theorem comp_succ (ps : List Pt) (k : Nat) : comp ps (k + 1) = if keepB ps k = true then comp ps k ++ [gp ps k] else comp ps k := by
 unfold comp
 rw [List.range_succ, List.filter_append]
 by_cases h : keepB ps k = true
 ·simp [h]
 ·simp [h]
theorem comp_len (ps : List Pt) : ∀ k, (comp ps k).length ≤ k
 | 0 => by simp [comp]
 | k + 1 => by
  have := comp_len ps k
  rw [comp_succ]
  split
  ·simp; omega
  ·omega
theorem comp_le (ps : List Pt) {j : Nat} : ∀ {k}, j ≤ k → (comp ps k).length + j ≤ (comp ps j).length + k
 | 0, h => by have : j = 0 := by omega
              subst this; omega
 | k + 1, h => by
  by_cases e : j = k + 1
  ·subst e; omega
  ·have := comp_le ps (j := j) (k := k) (by omega)
   rw [comp_succ]
   split
   ·simp; omega
   ·omega
theorem comp_all (ps : List Pt) : ∀ k, k ≤ ps.length → (∀ j, j < k → keepB ps j = true) → comp ps k = ps.take k
 | 0, _, _ => by simp [comp]
 | k + 1, hk, h => by
  rw [comp_succ, if_pos (h k (by omega)), comp_all ps k (by omega) (fun j hj => h j (by omega))]
  have : gp ps k = ps[k] := by simp [gp, List.getD_eq_getElem?_getD, List.getElem?_eq_getElem (show k < ps.length by omega)]
  rw [this, List.take_append_getElem]
def midP (ps : List Pt) (j : Nat) : List Pt := comp ps j ++ ps.drop (comp ps j).length
theorem midP_len (ps : List Pt) {j : Nat} (h : j ≤ ps.length) : (midP ps j).length = ps.length := by
 have := comp_len ps j
 unfold midP; simp; omega
theorem midP_get (ps : List Pt) {j i : Nat} (h : (comp ps j).length ≤ i) : gp (midP ps j) i = gp ps i := by
 unfold gp midP
 simp only [List.getD_eq_getElem?_getD]
 rw [List.getElem?_append_right h, List.getElem?_drop]
 congr 2; omega
theorem midP_set (ps : List Pt) {j : Nat} (hj : j < ps.length) (hk : keepB ps j = true) : (midP ps j).set (comp ps j).length (gp ps j) = midP ps (j + 1) := by
 have := comp_len ps j
 unfold midP
 rw [comp_succ, if_pos hk, List.set_append_right _ _ (Nat.le_refl _), Nat.sub_self]
 have hlt : (comp ps j).length < ps.length := by omega
 rw [List.drop_eq_getElem_cons hlt, List.set_cons_zero]
 simp
theorem midP_skip (ps : List Pt) {j : Nat} (hk : keepB ps j = false) : midP ps j = midP ps (j + 1) := by
 unfold midP
 rw [comp_succ, if_neg (by rw [hk]; exact Bool.false_ne_true)]
theorem cellsP_put : ∀ (ys : List Pt) (i : Nat) (p : Pt), i < ys.length → rput (cellsP ys) (i * 2) [.int .i64 p.1, .int .i64 p.2] = cellsP (ys.set i p)
 | y :: ys, 0, p, _ => by simp [rput, cellsP]
 | y :: ys, i + 1, p, h => by
  have ih := cellsP_put ys i p (by simpa using h)
  have e : (i + 1) * 2 = i * 2 + 1 + 1 := by omega
  simp only [rput, cellsP, List.flatMap_cons, List.set_cons_succ, e, List.cons_append, List.nil_append, List.take_succ_cons, List.length_cons, List.length_nil] at ih ⊢
  rw [show i * 2 + 1 + 1 + (0 + 1 + 1) = i * 2 + (0 + 1 + 1) + 1 + 1 by omega, List.drop_succ_cons, List.drop_succ_cons, ih]
theorem cellsP_take (ys : List Pt) (k : Nat) : (cellsP ys).take (k * 2) = cellsP (ys.take k) := by
 induction ys generalizing k with
 | nil => simp [cellsP]
 | cons y ys ih =>
  cases k with
  | zero => simp [cellsP]
  | succ k =>
   have e : (k + 1) * 2 = k * 2 + 1 + 1 := by omega
   simp only [cellsP, List.flatMap_cons, List.take_succ_cons, e, List.cons_append, List.nil_append] at ih ⊢
   rw [ih]
theorem rput_take_off {xs ys : List Value} {off : Nat} (h : off ≤ xs.length) : (rput xs off ys).take off = xs.take off := by
 unfold rput
 rw [List.append_assoc, List.take_append_of_le_length (by simp; omega), List.take_take, Nat.min_self]
theorem compactP_short {ps : List Pt} (h : ps.length < 2) : compactP ps = ps := by
 match ps with
 | [] => rfl
 | [x] => rfl
theorem rowP_get (ys : List Pt) {i : Nat} (hi : i < ys.length) : ∀ j v, ([.int .i64 (gp ys i).1, .int .i64 (gp ys i).2] : List Value)[j]? = some v → (cellsP ys)[i * 2 + j]? = some v := by
 intro j v hv
 obtain ⟨g1, g2⟩ := cellsP_get ys i hi
 match j with
 | 0 => simp at hv; subst hv; rw [show i * 2 + 0 = 2 * i by omega]; exact g1
 | 1 => simp at hv; subst hv; rw [show i * 2 + 1 = 2 * i + 1 by omega]; exact g2
 | j + 2 => simp at hv
end Go.Proofs.YtcdlplobniogpaaGreat
namespace Go.V
open Go Go.RowKit
variable {P : Program}
def argSV : Nat → List SV → List (Nat × SV)
 | _, [] => []
 | n, s :: r => (n, s) :: argSV (n + 1) r
theorem argSV_look : ∀ (l : List SV) (n d : Nat) (s : SV), look (argSV n l) d = some s → n ≤ d ∧ d < n + l.length ∧ l[d - n]? = some s
 | [], n, d, s, h => by cases h
 | v :: r, n, d, s, h => by
  simp only [argSV, look_cons] at h
  split at h
  ·rename_i hd
   subst hd
   cases h
   exact ⟨Nat.le_refl _, by simp, by simp⟩
  ·rename_i hd
   obtain ⟨h1, h2, h3⟩ := argSV_look r (n + 1) d s h
   refine ⟨by omega, by simp; omega, ?_⟩
   have : d - n = (d - (n + 1)) + 1 := by omega
   rw [this, List.getElem?_cons_succ]
   exact h3
def ghs (val : Nat → Value) : Nat → List (Nat × SV) → List (Nat × Option OE) → List (Nat × Option OE)
 | _, [], ow => ow
 | n, (d, s) :: r, ow => (n, some (.gh d (val d) s)) :: ghs val (n + 1) r ow
theorem ghs_look (val : Nat → Value) : ∀ (l : List (Nat × SV)) (n : Nat) (ow : List (Nat × Option OE)) (i : Nat) (e : Option OE), look (ghs val n l ow) i = some e →
  (n ≤ i ∧ i < n + l.length ∧ ∃ d s, (d, s) ∈ l ∧ e = some (.gh d (val d) s)) ∨ look ow i = some e
 | [], n, ow, i, e, h => .inr h
 | (d, s) :: r, n, ow, i, e, h => by
  simp only [ghs, look_cons] at h
  split at h
  ·rename_i hi
   subst hi
   cases h
   exact .inl ⟨Nat.le_refl _, by simp, d, s, by simp, rfl⟩
  ·rcases ghs_look val r (n + 1) ow i e h with ⟨h1, h2, d', s', h3, h4⟩ | h
   ·exact .inl ⟨by omega, by simp; omega, d', s', List.mem_cons_of_mem _ h3, h4⟩
   ·exact .inr h
def rst (st st' : St) (val : Nat → Value) (pl : List (Nat × SV)) : List (Nat × Option OE) → (List (Nat × SV) → Prop) → Prop
 | [], k => k pl
 | (i, some (.gh _ _ _)) :: r, k => match st'.own i with
  | some (.gh d v s) => match look st.sl d with
   | some _ => VFact (v = val d) (rst st st' val pl r fun sl => k ((d, s) :: sl))
   | none => rst st st' val pl r k
  | _ => rst st st' val pl r k
 | _ :: r, k => rst st st' val pl r k
theorem rst_spec {st st' : St} {val : Nat → Value} {pl : List (Nat × SV)} : ∀ {l : List (Nat × Option OE)} {k : List (Nat × SV) → Prop}, rst st st' val pl l k →
  ∃ sl, k sl ∧ ∀ d s, (d, s) ∈ sl → (d, s) ∈ pl ∨ (∃ s0, look st.sl d = some s0) ∧ ∃ i, st'.own i = some (.gh d (val d) s)
 | [], k, h => ⟨pl, h, fun d s hd => .inl hd⟩
 | (i, none) :: r, k, h => rst_spec (l := r) h
 | (i, some (.box t cs)) :: r, k, h => rst_spec (l := r) h
 | (i, some (.row E sz n xs)) :: r, k, h => rst_spec (l := r) h
 | (i, some (.vw _ _ _ _)) :: r, k, h => rst_spec (l := r) h
 | (i, some (.mp _ _ _ _ _ _)) :: r, k, h => rst_spec (l := r) h
 | (i, some (.nw _)) :: r, k, h => rst_spec (l := r) h
 | (i, some (.gh d0 v0 s0)) :: r, k, h => by
  simp only [rst] at h
  split at h
  ·rename_i d v s hi
   split at h
   ·rename_i s1 hs1
    cases h with
    | mk hv hk =>
     obtain ⟨sl, h1, h2⟩ := rst_spec (l := r) hk
     refine ⟨_, h1, ?_⟩
     intro d' s' hm
     rcases List.mem_cons.1 hm with he | hm
     ·cases he
      exact .inr ⟨⟨_, hs1⟩, i, by rw [hi, hv]⟩
     ·exact h2 d' s' hm
   ·exact rst_spec (l := r) h
  ·exact rst_spec (l := r) h
def finK (st st' : St) (val : Nat → Value) (pl : List (Nat × SV)) (s : SV) (K : SV → St → Prop) : Prop :=
 match st, st' with
 | ⟨sl, ow, nx, M, nt, G⟩, ⟨sl', ow', nx', M', nt', ⟨m, Y, f⟩⟩ => VFact (M.le M') (VFact (∀ b, m b = none) (rst ⟨sl, ow, nx, M, nt, G⟩ ⟨sl', ow', nx', M', nt', ⟨m, Y, f⟩⟩ val pl ow' fun sl2 => K s ⟨sl2, ow', nx', M, nt, G⟩))
def finV (C : VX) (fn : Func) (st : St) (val : Nat → Value) (pl : List (Nat × SV)) (K : SV → St → Prop) (e : Ex) (st' : St) : Prop :=
 match e with
 | .exit _ => VStuck 180
 | _ => match resSV C st' fn.results.toList with
  | some [] => finK st st' val pl (.v (.tuple #[])) K
  | some [s] => finK st st' val pl s K
  | _ => VStuck 181
theorem finK_iff {st st' : St} {val : Nat → Value} {pl : List (Nat × SV)} {s : SV} {K : SV → St → Prop} (h : finK st st' val pl s K) :
  st.M.le st'.M ∧ (∀ b, st'.G.m b = none) ∧ rst st st' val pl st'.ow fun sl2 => K s ⟨sl2, st'.ow, st'.nx, st.M, st.nt, st.G⟩ := by
 obtain ⟨sl, ow, nx, M, nt, G⟩ := st
 obtain ⟨sl', ow', nx', M', nt', ⟨m, Y, f⟩⟩ := st'
 cases h with
 | mk h1 h2 =>
  cases h2 with
  | mk h2 h3 => exact ⟨h1, h2, h3⟩
def subSl (st : St) : List (Nat × SV) → Prop
 | [] => True
 | (d, s) :: r => look st.sl d = some s ∧ subSl st r
theorem subSl_mem {st : St} : ∀ {l : List (Nat × SV)}, subSl st l → ∀ {d s}, (d, s) ∈ l → look st.sl d = some s
 | [], _, _, _, h => by cases h
 | (_, _) :: l, ⟨h1, h2⟩, d, s, h => by
  rcases List.mem_cons.1 h with he | h
  ·cases he; exact h1
  ·exact subSl_mem h2 h
def plSl : List (Nat × Value) → List (Nat × SV)
 | [] => []
 | (d, x) :: r => (d, .v x) :: plSl r
theorem plSl_mem : ∀ {l : List (Nat × Value)} {d : Nat} {s : SV}, (d, s) ∈ plSl l → ∃ x, s = .v x
 | [], _, _, h => by cases h
 | (_, x) :: l, d, s, h => by
  rcases List.mem_cons.1 h with he | h
  ·cases he; exact ⟨x, rfl⟩
  ·exact plSl_mem h
open Classical in
theorem VCall.inline {C : VX} (hC : VXOK P C) {f : Nat} {fn : Func} {c : Code} (hf : P.funcs[f]? = some fn) (hb : fn.body = some c) (hname : (fn.name == "runtime.NumGoroutine") = false)
  {st : St} {args : List SV} {K : SV → St → Prop} (hnt : Nat.ble args.length fn.ntmps = true) (slots : List (Nat × SV)) (pls : List (Nat × Value)) (hs1 : subSl st slots) (hs2 : subSl st (plSl pls))
  (h : ∀ (val : Nat → Value) (f0 : Mem), vc C P c ⟨argSV 0 args, ghs val st.nx slots st.ow, st.nx + slots.length, st.M, fn.ntmps, ⟨fun _ => none, none, f0⟩⟩ (finV C fn st val (plSl pls) K)) :
  VCall P f args st K := by
 refine ⟨Go.Proofs.enters_of hf hname hb, fun n₀ w M₀ ρ W hS hsa hss => ?_⟩
 refine (callsIn_wide (n := 100)).1 (callsIn_of_wp_marks hf hb trivial ?_ rfl)
 have hle := Nat.le_of_ble_eq_true hnt
 obtain ⟨val, hval⟩ : ∃ val : Nat → Value, val = fun d => match look st.sl d with | some s => s.den ρ | none => undef := ⟨_, rfl⟩
 obtain ⟨f0, hf0⟩ : ∃ f0 : Mem, f0 = fun b => match st.G.m b with | some o => some o | none => st.G.f b := ⟨_, rfl⟩
 obtain ⟨ρ0, hρ0⟩ : ∃ ρ0 : Env, ρ0 = fun i => if i < st.nx then ρ i else .bool true := ⟨_, rfl⟩
 have hag : Agree st.nx ρ ρ0 := fun i hi => by rw [hρ0]; simp [hi]
 have hf0s : ∀ b o, f0 b = some o → W.heap[b]? = some o ∧ ∀ i e, st.own i = some e → ob (ρ i) ≠ some b := by
  intro b o hb
  rw [hf0] at hb
  simp only at hb
  split at hb
  ·rename_i o' hm
   cases hb
   obtain ⟨p1, p2, p3⟩ := hS.pin b o hm
   refine ⟨p2, fun i e hi he => ?_⟩
   obtain ⟨_, _, o2, hh, ho⟩ := (hS.own i e hi).2.2.lt b he
   rw [hh] at p2; cases p2; rw [ho] at p1; cases p1
  ·exact hS.fpin b o hb
 obtain ⟨T, hT⟩ : ∃ T : St, T = ⟨argSV 0 args, ghs val st.nx slots st.ow, st.nx + slots.length, st.M, fn.ntmps, ⟨fun _ => none, none, f0⟩⟩ := ⟨_, rfl⟩
 have hvc := h val f0
 rw [← hT] at hvc
 -- the entries of the start: the caller's, and the ghosts
 have hown0 : ∀ i e, T.own i = some e → (i < st.nx ∧ st.own i = some e) ∨ (st.nx ≤ i ∧ i < st.nx + slots.length ∧ ∃ d s, (d, s) ∈ slots ∧ e = .gh d (val d) s) := by
  intro i e hi
  rw [hT] at hi
  unfold St.own at hi
  split at hi
  ·rename_i e' hl
   cases hi
   rcases ghs_look val slots st.nx st.ow i _ hl with ⟨h1, h2, d, s, h3, h4⟩ | hl
   ·cases h4
    exact .inr ⟨h1, h2, d, s, h3, rfl⟩
   ·have : st.own i = some e := by unfold St.own; rw [hl]
    exact .inl ⟨(hS.own i e this).1, this⟩
  ·cases hi
 have hs0 : Sat n₀ w M₀ ρ0 T { tmps := (args.map (SV.den ρ)).toArray ++ Array.replicate (fn.ntmps - (args.map (SV.den ρ)).toArray.size) undef, defers := [] } W := by
  refine ⟨⟨hS.below, hS.size, by rw [hT]; exact hS.mem, ?_, ?_, ?_, ?_, by rw [hT]; exact hS.mlow, ?_⟩, by rw [hT]; simp; omega, ?_, by rw [hT]; trivial⟩
  ·intro i e hi
   have hTnx : T.nx = st.nx + slots.length := by rw [hT]
   rw [hTnx]
   rcases hown0 i e hi with ⟨h1, h2⟩ | ⟨h1, h2, d, s, h3, rfl⟩
   ·obtain ⟨g1, g2, g3⟩ := hS.own i e h2
    exact ⟨by omega, OE.sc_mono (by omega) g2, g3.keep hag g1 g2 fun _ _ => rfl⟩
   ·have hl := subSl_mem hs1 h3
    have hsc := hss d s hl
    refine ⟨h2, SV.sc_mono (by omega) hsc, ?_, ?_⟩
    ·rw [hρ0]; simp [Nat.not_lt.2 h1, ob]
    ·rw [SV.den_agree hag hsc, hval]; simp only [hl]
  ·intro i j ei ej hi hj hij b hbi hbj
   rcases hown0 i ei hi with ⟨h1, h2⟩ | ⟨h1, h2, d, s, h3, rfl⟩
   ·rcases hown0 j ej hj with ⟨k1, k2⟩ | ⟨k1, k2, d, s, k3, rfl⟩
    ·rw [hag i h1] at hbi
     rw [hag j k1] at hbj
     exact hS.sep i j ei ej h2 k2 hij b hbi hbj
    ·rw [hρ0] at hbj; simp [Nat.not_lt.2 k1, ob] at hbj
   ·rw [hρ0] at hbi; simp [Nat.not_lt.2 h1, ob] at hbi
  ·intro i e b hi hbi
   rcases hown0 i e hi with ⟨h1, h2⟩ | ⟨h1, h2, d, s, h3, rfl⟩
   ·rw [hag i h1] at hbi
    rw [hT]
    exact hS.msep i e b h2 hbi
   ·rw [hρ0] at hbi; simp [Nat.not_lt.2 h1, ob] at hbi
  ·intro b o hbo
   rw [hT] at hbo; cases hbo
  ·intro b o hbo
   rw [hT] at hbo
   obtain ⟨q1, q2⟩ := hf0s b o hbo
   refine ⟨q1, fun i e hi he => ?_⟩
   rcases hown0 i e hi with ⟨h1, h2⟩ | ⟨h1, h2, d, s, h3, rfl⟩
   ·rw [hag i h1] at he
    exact q2 i e h2 he
   ·rw [hρ0] at he; simp [Nat.not_lt.2 h1, ob] at he
  ·intro d s hd
   rw [hT] at hd
   obtain ⟨h1, h2, h3⟩ := argSV_look args 0 d s hd
   have hmem : s ∈ args := List.mem_of_getElem? h3
   have hsc := hsa s hmem
   refine ⟨by rw [hT]; show d < fn.ntmps; omega, by rw [hT]; exact SV.sc_mono (Nat.le_add_right _ _) hsc, ?_⟩
   simp only [Nat.sub_zero] at h3
   rw [Array.getElem?_append_left (by simp; omega), SV.den_agree hag hsc]
   simp [h3]
 have hY0 : T.G.Y = none := by rw [hT]
 have := vc_sound (r := none) (n := 100) hC (κ := fun Y B => Y = none ∧ B = ⟨n₀, w, M₀⟩) (fun l tag args rest B M W hκ => by cases hκ.1) (fx := fun _ => False) (tm := #[]) (B := ⟨n₀, w, M₀⟩) c hvc (fun l hl => by cases hl) ⟨hY0, rfl⟩ hs0 (wr_false c) (fun d hd => hd.elim)
 refine wpIn_mono this ?_
 rintro e a' W' ⟨⟨ex, he, B, ρ', st', ⟨_, rfl⟩, h1, h2, h3⟩, _⟩
 have hf' : st'.G.f = f0 := by rw [h2.2, hT]
 have main : (e = .normal ∨ e = .ret) → LeavesInM (Fw none) 100 P fn a'.tmps (fun e W' => ∃ s st' ρ', e = .returned (s.den ρ') ∧ s.sc st'.nx ∧
   SatH n₀ w M₀ ρ' st' W' ∧ (∀ d s', look st'.sl d = some s' → s'.sc st'.nx ∧ ∃ s0, look st.sl d = some s0 ∧ s'.den ρ' = s0.den ρ) ∧ st'.nt = st.nt ∧ st'.G = st.G ∧ K s st') a'.defers .returning W' := by
  intro hcase
  have hsl : ∀ d s, look st'.sl d = some s → s.sc st'.nx ∧ a'.tmps[d]? = some (s.den ρ') := fun d s hd => ⟨(h1.sl d s hd).2.1, (h1.sl d s hd).2.2⟩
  have hend : ∀ (rs : List SV) (s : SV), resSV C st' fn.results.toList = some rs → ret (rs.map (SV.den ρ')) = s.den ρ' → (s.sc st'.nx) → finK st st' val (plSl pls) s K → LeavesInM (Fw none) 100 P fn a'.tmps (fun e W' => ∃ s st' ρ', e = .returned (s.den ρ') ∧ s.sc st'.nx ∧
    SatH n₀ w M₀ ρ' st' W' ∧ (∀ d s', look st'.sl d = some s' → s'.sc st'.nx ∧ ∃ s0, look st.sl d = some s0 ∧ s'.den ρ' = s0.den ρ) ∧ st'.nt = st.nt ∧ st'.G = st.G ∧ K s st') a'.defers .returning W' := by
   intro rs s hrs hret hsc hfin
   obtain ⟨hM, hm, hk⟩ := finK_iff hfin
   obtain ⟨sl2, hK, hsl2⟩ := rst_spec hk
   have hds : a'.defers = [] := marks_nil h1.marks hm
   rw [hds]
   refine ⟨s.den ρ', ?_, s, ⟨sl2, st'.ow, st'.nx, st.M, st.nt, st.G⟩, ρ', rfl, hsc, ?_, ?_, rfl, rfl, hK⟩
   ·have hr := (results_run (tmps := a'.tmps) hC h1.h hsl fn.results.toList hrs).1
    have := results_ret fn a'.tmps P _ W' hr
    rw [hret] at this
    exact this
   ·refine ⟨h1.h.below, h1.h.size, fun b o hb => h1.h.mem b o (hM b o hb), h1.h.own, h1.h.sep, fun i e b hi hb => ?_, ?_, hS.mlow, ?_⟩
    ·have hn := h1.h.msep i e b hi hb
     cases hc : st.M b with
     | none => rfl
     | some o => rw [hM b o hc] at hn; cases hn
    ·intro b o hbo
     obtain ⟨p1, p2, p3⟩ := hS.pin b o hbo
     have hfb : st'.G.f b = some o := by
      have hbo' : st.G.m b = some o := hbo
      rw [hf', hf0]; simp only [hbo']
     exact ⟨p1, (h1.h.fpin b o hfb).1, p3⟩
    ·intro b o hbo
     have hbo' : st.G.f b = some o := hbo
     have hfb : st'.G.f b = some o := by
      rw [hf', hf0]; simp only
      split
      ·rename_i o' hm'
       have q1 := (hS.pin b o' hm').2.1
       have q2 := (hS.fpin b o hbo').1
       rw [q1] at q2; cases q2; rfl
      ·exact hbo'
     exact h1.h.fpin b o hfb
   ·intro d s' hd
    rcases hsl2 d s' (look_mem hd) with hp | ⟨⟨s0, hs0'⟩, i, hi⟩
    ·have hl := subSl_mem hs2 hp
     obtain ⟨x, rfl⟩ := plSl_mem hp
     exact ⟨trivial, _, hl, rfl⟩
    ·obtain ⟨_, g2, g3⟩ := h1.h.own i _ hi
     refine ⟨g2, s0, hs0', ?_⟩
     rw [g3.2, hval]; simp only [hs0']
  have h3' : (match resSV C st' fn.results.toList with
   | some [] => finK st st' val (plSl pls) (.v (.tuple #[])) K
   | some [s] => finK st st' val (plSl pls) s K
   | _ => VStuck 181) := by
   rcases hcase with rfl | rfl <;> cases he <;> exact h3
  split at h3'
  ·rename_i hrs
   exact hend [] (.v (.tuple #[])) hrs rfl trivial h3'
  ·rename_i s hrs
   exact hend [s] s hrs rfl ((results_run (tmps := a'.tmps) hC h1.h hsl fn.results.toList hrs).2 s (by simp)) h3'
  ·cases h3'
 cases e with
 | normal => exact main (.inl rfl)
 | ret => exact main (.inr rfl)
 | exit i => cases he; cases h3
 | goto => cases he
 | panic => cases he
 | outgrown => cases he
theorem SatH.ren {n₀ : Nat} {w : World} {M₀ : Mem} {ρ : Env} {st st' : St} {W : World} (h : SatH n₀ w M₀ ρ st W) (r : Nat → Nat) (how : owOK st r st'.nx st'.ow) (hinj : injOK r st'.ow) (hM : st.M = st'.M) (hG : st.G = st'.G) :
  SatH n₀ w M₀ (fun i => ρ (r i)) st' W := by
 let T' : St := ⟨[], st'.ow, st'.nx, st'.M, 0, st.G⟩
 have hwk : SatH n₀ w M₀ (fun i => ρ (r i)) T' W := by
  have hent : ∀ id e, st'.own id = some e → (id, some e) ∈ st'.ow := fun id e he => by
   unfold St.own at he
   split at he
   ·rename_i e' hl; cases he; exact look_mem hl
   ·cases he
  have hst : ∀ id e, st'.own id = some e → id < st'.nx ∧ e.sc st'.nx ∧ ∃ e0, st.own (r id) = some e0 ∧ (∀ W, OwnOK n₀ ρ W (r id) e0 → OwnOK n₀ (fun i => ρ (r i)) W id e) := fun id e he => by
   obtain ⟨h1, h2⟩ := owOK_mem how (hent id e he)
   cases e with
   | box t cs =>
    simp only [entOK] at h2
    split at h2
    ·rename_i t' cs' ho
     obtain ⟨rfl, hc⟩ := h2
     obtain ⟨i1, i2⟩ := cellsOK_spec hc
     refine ⟨h1, i2, _, ho, ?_⟩
     rintro W ⟨B, b1, b2, b3⟩
     refine ⟨B, b1, b2, ?_⟩
     rw [b3, i1, List.map_map]
     have : SV.den ρ ∘ SV.ren r = SV.den (fun i => ρ (r i)) := funext (SV.ren_den ρ r)
     rw [this]
    ·exact h2.elim
   | row E sz n xs =>
    simp only [entOK] at h2
    split at h2
    ·rename_i E' sz' n' xs' ho
     obtain ⟨rfl, rfl, rfl, rfl⟩ := h2
     exact ⟨h1, trivial, _, ho, fun W hW => hW⟩
    ·exact h2.elim
   | gh t v s =>
    simp only [entOK] at h2
    split at h2
    ·rename_i t' v' s' ho
     obtain ⟨⟨rfl, rfl⟩, rfl, hs⟩ := h2
     exact ⟨h1, SVB_spec hs, _, ho, fun W hW => ⟨hW.1, by rw [← SV.ren_den]; exact hW.2⟩⟩
    ·exact h2.elim
   | vw sz b k n =>
    simp only [entOK] at h2
    split at h2
    ·rename_i sz' b' k' n' ho
     obtain ⟨⟨rfl, rfl⟩, ⟨rfl, rfl⟩, hb⟩ := h2
     exact ⟨h1, Nat.le_of_ble_eq_true hb, _, ho, fun W hW => hW⟩
    ·exact h2.elim
   | mp P t k e B ks =>
    simp only [entOK] at h2
    split at h2
    ·rename_i P' t' k' e' B' ks' ho
     obtain ⟨⟨rfl, rfl, rfl⟩, rfl, rfl, rfl⟩ := h2
     exact ⟨h1, trivial, _, ho, fun W hW => hW⟩
    ·exact h2.elim
   | nw B =>
    simp only [entOK] at h2
    split at h2
    ·rename_i B' ho
     subst h2
     exact ⟨h1, trivial, _, ho, fun W hW => hW⟩
    ·exact h2.elim
  have hin : ∀ id e, st'.own id = some e → id ∈ st'.ow.map (·.1) := fun id e he => List.mem_map.2 ⟨_, hent id e he, rfl⟩
  refine ⟨h.below, h.size, fun b o hb => h.mem b o (by rw [hM]; exact hb), ?_, ?_, ?_, ?_, fun b hb => by show st'.M b = _; rw [← hM]; exact h.mlow b hb, ?_⟩
  ·intro id e he
   obtain ⟨h1, h2, e0, h3, h4⟩ := hst id e he
   exact ⟨h1, h2, h4 W (h.own _ _ h3).2.2⟩
  ·intro i j ei ej hi hj hij b
   obtain ⟨_, _, e1, h3, _⟩ := hst i ei hi
   obtain ⟨_, _, e2, h4, _⟩ := hst j ej hj
   exact h.sep (r i) (r j) e1 e2 h3 h4 (injOK_spec hinj i j (hin i ei hi) (hin j ej hj) hij) b
  ·intro i e b hi hb
   obtain ⟨_, _, e1, h3, _⟩ := hst i e hi
   have := h.msep (r i) e1 b h3 hb
   show st'.M b = none
   rw [← hM]; exact this
  ·intro b o hb
   obtain ⟨h1, h2, h3⟩ := h.pin b o hb
   refine ⟨h1, h2, ?_⟩
   show st'.M b = none
   rw [← hM]; exact h3
  ·intro b o hb
   obtain ⟨h1, h2⟩ := h.fpin b o hb
   refine ⟨h1, fun i e hi => ?_⟩
   obtain ⟨_, _, e0, h3, _⟩ := hst i e hi
   exact h2 (r i) e0 h3
 exact hwk.same rfl rfl rfl hG.symm
theorem VCall.wk {st st1 : St} {f : Nat} {args args1 : List SV} {K : SV → St → Prop} (r : Nat → Nat) (ha : args = args1.map (SV.ren r)) (hab : args1.all (SVB st1.nx) = true) (hsl : slOK st r st1.nx st1.sl) (how : owOK st r st1.nx st1.ow) (hinj : injOK r st1.ow) (hM : st.M = st1.M) (hnt : st.nt = st1.nt) (hG : st.G = st1.G)
  (h : VCall P f args1 st1 K) : VCall P f args st K := by
 refine ⟨h.ent, fun n₀ w M₀ ρ W hS hsa hss => ?_⟩
 have h1 := hS.ren r how hinj hM hG
 have hargs : args.map (SV.den ρ) = args1.map (SV.den fun i => ρ (r i)) := by
  rw [ha, List.map_map]
  exact List.map_congr_left fun s _ => SV.ren_den ρ r s
 rw [hargs]
 have hsl1 : ∀ d s, look st1.sl d = some s → look st.sl d = some (s.ren r) ∧ s.sc st1.nx := fun d s hd => slOK_mem hsl (look_mem hd)
 refine (h.run n₀ w M₀ _ W h1 (fun s hs => SVB_spec (List.all_eq_true.1 hab s hs)) (fun d s hd => (hsl1 d s hd).2)).mono ?_
 rintro e W' ⟨s, st', ρ', rfl, g4, g5, g7, g8, g10, g9⟩
 refine ⟨s, st', ρ', rfl, g4, g5, ?_, by rw [g8, hnt], by rw [g10, hG], g9⟩
 intro d s' hd
 obtain ⟨q1, s0, q2, q3⟩ := g7 d s' hd
 exact ⟨q1, _, (hsl1 d s0 q2).1, by rw [q3, SV.ren_den]⟩
structure Left (st' : St) (s : SV) (st2 : St) (s2 : SV) : Prop where
 w : ∃ r : Nat → Nat, s = s2.ren r ∧ SVB st2.nx s2 = true ∧ slOK st' r st2.nx st2.sl ∧ owOK st' r st2.nx st2.ow ∧ injOK r st2.ow
 m : st'.M = st2.M
 nt : st'.nt = st2.nt
 g : st'.G = st2.G
theorem VCall.post {st : St} {f : Nat} {args : List SV} {K : SV → St → Prop} (h : VCall P f args st fun s st' => ∃ s2 st2, Left st' s st2 s2 ∧ K s2 st2) : VCall P f args st K := by
 refine ⟨h.ent, fun n₀ w M₀ ρ W hS hsa hss => ?_⟩
 refine (h.run n₀ w M₀ _ W hS hsa hss).mono ?_
 rintro e W' ⟨s, st', ρ', rfl, g4, g5, g7, g8, g10, s2, st2, ⟨⟨r, h1, h2, h3, h4, h5⟩, hm, hnt, hg⟩, hK⟩
 refine ⟨s2, st2, fun i => ρ' (r i), by rw [h1, SV.ren_den], SVB_spec h2, g5.ren r h4 h5 hm hg, ?_, by rw [← hnt, g8], by rw [← hg, g10], hK⟩
 intro d s' hd
 obtain ⟨q1, q2⟩ := slOK_mem h3 (look_mem hd)
 obtain ⟨_, s0, k2, k3⟩ := g7 d _ q1
 exact ⟨q2, s0, k2, by rw [← k3, SV.ren_den]⟩
end Go.V
namespace Go.Proofs.YtcdlplobniogpaaGreat
open Go Go.V Go.RowKit
theorem cellsP_length (ps : List Pt) : (cellsP ps).length = ps.length * 2 := cellsP_len ps
set_option maxHeartbeats 1000000 in
theorem Compact_call {n nt : Nat} {xs : List Value} {ps : List Pt} {M : Mem} {G : Gh} {K : SV → St → Prop} (hn : n = ps.length) (hx : xs = cellsP ps) (hsz : ps.length < 4611686018427387904)
  (hK : K (.row 0) ⟨[], [(0, some (.row 44 2 (compactP ps).length (cellsP (compactP ps))))], 1, M, nt, G⟩) :
  VCall Tryz.prog 140 [.row 0] ⟨[], [(0, some (.row 44 2 n xs))], 1, M, nt, G⟩ K := by
 subst hn; subst hx
 refine VCall.post ?_
 refine VCall.inline cxOK Tryz.func140 rfl rfl rfl [] [] trivial trivial ?_
 intro val f0
 refine VIf.mk (fun h => ?_) (fun h => ?_)
 ·have h := lt_of_dec h
  refine VFact.mk (fun _ _ h => h) ?_
  refine VFact.mk (fun _ => rfl) ?_
  have e : compactP ps = ps := compactP_short (by omega)
  exact ⟨_, ⟨[], [(0, some (.row 44 2 (compactP ps).length (cellsP (compactP ps))))], 1, M, nt, G⟩, ⟨⟨fun _ => 0, rfl, rfl, trivial, ⟨⟨rfl, rfl, rfl, by rw [e], by rw [e]⟩, trivial⟩, injOK_one _ _ _⟩, rfl, rfl, rfl⟩, hK⟩
 have h := ge_of_dec h
 refine VCode.loopG cxOK (fun m => m = fun _ => none) rfl Nat (fun k => ⟨[(0, .row 0), (3, .v (.int .i64 k))], [(0, some (.row 44 2 ps.length (cellsP ps)))], 1, M, 61, ⟨fun _ => none, none, f0⟩⟩)
  (fun k => 1 ≤ k ∧ k ≤ ps.length ∧ ∀ j, j < k → keepB ps j = true) (fun k => ps.length - k) 1 ⟨Nat.le_refl _, Nat.le_of_succ_le h, fun j (hj : j < 1) => (Nat.lt_one_iff.1 hj).symm ▸ rfl⟩ (Wk.mk' id (by repeat' constructor) (by repeat' constructor) (injOK_id _) rfl rfl rfl) ?_
 rintro k ⟨hk1, hk2, hk3⟩ m rfl
 refine VIf.mk (fun hlt => ?_) (fun hge => ?_)
 ·have hlt := lt_of_dec hlt
  refine VDraw.go (by kernel_rfl) ?_
  refine VIdxR.mk k rfl hlt ?_
  refine VCells.mk [.int .i64 (gp ps k).1, .int .i64 (gp ps k).2] rfl (rowP_get ps hlt) ?_
  refine VArith.ok (by first | omega | (simp only; omega)) (by first | omega | (simp only; omega)) ?_
  refine VIdxR.mk (k - 1) (by omega) (by omega) ?_
  refine VCells.mk [.int .i64 (gp ps (k - 1)).1, .int .i64 (gp ps (k - 1)).2] rfl (rowP_get ps (by omega)) ?_
  refine VIf.mk (fun hd => ?_) (fun hd => ?_)
  ·
   have hkk : keepB ps k = false := by
    simp only [eqRes, Bool.and_eq_true, beq_iff_eq] at hd
    simp only [keepB, Bool.or_eq_false_iff, beq_eq_false_iff_ne, bne_eq_false_iff_eq]
    exact ⟨by omega, Prod.ext hd.1 hd.2⟩
   have hm : midP ps (k + 1) = ps := by
    rw [← midP_skip ps hkk]
    unfold midP
    rw [comp_all ps k hk2 hk3, List.length_take, Nat.min_eq_left hk2, List.take_append_drop]
   have hc : (comp ps (k + 1)).length = k := by
    rw [comp_succ, if_neg (by rw [hkk]; exact Bool.false_ne_true), comp_all ps k hk2 hk3, List.length_take, Nat.min_eq_left hk2]
   refine VFact.mk (by omega) ?_
   refine VBnd.mk k rfl hk2 ?_
   refine VFact.mk hlt ?_
   refine VCode.loopG cxOK (fun m => m = fun _ => none) rfl (Nat × Nat × List Value) (fun (⟨kk, k2, ys⟩ : Nat × Nat × List Value) => ⟨[(0, .row 0), (3, .v (.int .i64 kk)), (4, .row 1), (5, .v (.int .i64 k2))], [(0, some (.row 44 2 ps.length ys)), (1, some (.vw 2 0 k (ps.length - k)))], 2, M, 61, ⟨fun _ => none, none, f0⟩⟩)
    (fun (⟨kk, k2, ys⟩ : Nat × Nat × List Value) => 1 ≤ k2 ∧ k + k2 ≤ ps.length ∧ kk = (comp ps (k + k2)).length ∧ ys = cellsP (midP ps (k + k2)) ∧ kk + 1 ≤ k + k2) (fun (⟨_, k2, _⟩ : Nat × Nat × List Value) => ps.length - k2) (k, 1, cellsP ps) ⟨Nat.le_refl _, hlt, hc.symm, by rw [hm], Nat.le_refl _⟩ ?_ ?_
   ·refine Wk.mk' (fun i => i) (by repeat' constructor) (by repeat' constructor) (injOK_id _) rfl rfl rfl
   rintro ⟨kk, k2, ys⟩ ⟨h1, h2, h3, h4, h5⟩ m rfl
   subst h4
   have hml := midP_len ps (j := k + k2) h2
   refine VIf.mk (fun hl2 => ?_) (fun hg2 => ?_)
   ·have hl2 := lt_of_dec hl2
    have hj : k + k2 < ps.length := by omega
    refine VDraw.go (by kernel_rfl) ?_
    refine VIdxR.mk k2 rfl hl2 ?_
    refine VCells.mk [.int .i64 (gp ps (k + k2)).1, .int .i64 (gp ps (k + k2)).2] rfl ?_ ?_
    ·rw [← midP_get ps (j := k + k2) (i := k + k2) (by omega)]
     exact rowP_get _ (by omega)
    refine VArith.ok (by first | omega | (simp only; omega)) (by first | omega | (simp only; omega)) ?_
    refine VIdxR.mk (k2 - 1) (by omega) (by omega) ?_
    refine VCells.mk [.int .i64 (gp ps (k + (k2 - 1))).1, .int .i64 (gp ps (k + (k2 - 1))).2] rfl ?_ ?_
    ·rw [← midP_get ps (j := k + k2) (i := k + (k2 - 1)) (by omega)]
     exact rowP_get _ (by omega)
    refine VIf.mk (fun hd => ?_) (fun hd => ?_)
    ·have hkj : keepB ps (k + k2) = true := by
      simp only [eqRes, Bool.not_eq_true', Bool.and_eq_false_iff, beq_eq_false_iff_ne] at hd
      simp only [keepB, Bool.or_eq_true, beq_iff_eq, bne_iff_ne]
      refine .inr fun e => ?_
      rw [show k + k2 - 1 = k + (k2 - 1) by omega] at e
      rw [e] at hd
      simp at hd
     refine VIdxR.mk k2 rfl hl2 ?_
     refine VCells.mk [.int .i64 (gp ps (k + k2)).1, .int .i64 (gp ps (k + k2)).2] rfl ?_ ?_
     ·rw [← midP_get ps (j := k + k2) (i := k + k2) (by omega)]
      exact rowP_get _ (by omega)
     refine VIdxR.mk kk rfl (by omega) ?_
     have hfit : kk * 2 + 2 ≤ (cellsP (midP ps (k + k2))).length := by rw [cellsP_length, hml]; omega
     refine VFact.mk hfit ?_
     refine VArith.ok (by first | omega | (simp only; omega)) (by first | omega | (simp only; omega)) ?_
     refine VArith.ok (by first | omega | (simp only; omega)) (by first | omega | (simp only; omega)) ?_
     refine ⟨rfl, (kk + 1, k2 + 1, rput (cellsP (midP ps (k + k2))) (kk * 2) [.int .i64 (gp ps (k + k2)).1, .int .i64 (gp ps (k + k2)).2]), ⟨by omega, by omega, ?_, ?_, by omega⟩, ?_, (Wk.mk' id (by repeat' constructor) (by repeat' constructor) (injOK_id _) rfl rfl rfl)⟩
     ·rw [show k + (k2 + 1) = k + k2 + 1 by omega, comp_succ, if_pos hkj]
      simp [h3]
     ·rw [show k + (k2 + 1) = k + k2 + 1 by omega, ← midP_set ps hj hkj, ← h3, cellsP_put _ _ _ (by omega)]
     ·show ps.length - (k2 + 1) < ps.length - k2
      omega
    ·have hkj : keepB ps (k + k2) = false := by
      simp only [eqRes, Bool.not_eq_false', Bool.and_eq_true, beq_iff_eq] at hd
      simp only [keepB, Bool.or_eq_false_iff, beq_eq_false_iff_ne, bne_eq_false_iff_eq]
      rw [show k + k2 - 1 = k + (k2 - 1) by omega]
      exact ⟨by omega, Prod.ext hd.1 hd.2⟩
     refine VArith.ok (by first | omega | (simp only; omega)) (by first | omega | (simp only; omega)) ?_
     refine ⟨rfl, (kk, k2 + 1, cellsP (midP ps (k + k2))), ⟨by omega, by omega, ?_, ?_, by omega⟩, ?_, (Wk.mk' id (by repeat' constructor) (by repeat' constructor) (injOK_id _) rfl rfl rfl)⟩
     ·rw [show k + (k2 + 1) = k + k2 + 1 by omega, comp_succ, if_neg (by rw [hkj]; exact Bool.false_ne_true)]
      exact h3
     ·rw [show k + (k2 + 1) = k + k2 + 1 by omega, ← midP_skip ps hkj]
     ·show ps.length - (k2 + 1) < ps.length - k2
      omega
   ·have : k + k2 = ps.length := by have := ge_of_dec hg2; omega
    rw [this] at h3 h5 hml ⊢
    have hkn : kk < ps.length := by omega
    refine VFact.mk (by omega) ?_
    refine VBnd.mk kk rfl (by omega) ?_
    refine VFact.mk hkn ?_
    refine VFact.mk ⟨by omega, by rw [cellsP_length, hml]; omega⟩ ?_
    refine VBnd.mk kk rfl (by omega) ?_
    refine VFact.mk (fun _ _ h => h) ?_
    refine VFact.mk (fun _ => rfl) ?_
    refine ⟨_, ⟨[], [(0, some (.row 44 2 (compactP ps).length (cellsP (compactP ps))))], 1, M, nt, G⟩, ⟨⟨fun _ => 3, rfl, rfl, trivial, ⟨⟨rfl, rfl, rfl, ?_, ?_⟩, trivial⟩, injOK_one _ _ _⟩, rfl, rfl, rfl⟩, hK⟩
    ·exact h3.symm
    ·rw [rput_take_off (by rw [cellsP_length, hml]; omega), cellsP_take, h3]
     unfold midP
     rw [List.take_left]
     rfl
  ·have hkk : keepB ps k = true := by
    simp only [eqRes, Bool.and_eq_false_iff, beq_eq_false_iff_ne] at hd
    simp only [keepB, Bool.or_eq_true, beq_iff_eq, bne_iff_ne]
    refine .inr fun e => ?_
    rw [e] at hd
    simp at hd
   refine VArith.ok (by first | omega | (simp only; omega)) (by first | omega | (simp only; omega)) ?_
   refine ⟨rfl, k + 1, ⟨by omega, by omega, fun j hj => ?_⟩, (by first | omega | (simp only; omega)), (Wk.mk' id (by repeat' constructor) (by repeat' constructor) (injOK_id _) rfl rfl rfl)⟩
   by_cases e : j = k
   ·subst e; exact hkk
   ·exact hk3 j (by omega)
 ·have : k = ps.length := by have := ge_of_dec hge; omega
  subst this
  refine VFact.mk (fun _ _ h => h) ?_
  refine VFact.mk (fun _ => rfl) ?_
  have e : compactP ps = ps := by
   unfold compactP
   rw [comp_all ps _ (Nat.le_refl _) hk3, List.take_length]
  exact ⟨_, ⟨[], [(0, some (.row 44 2 (compactP ps).length (cellsP (compactP ps))))], 1, M, nt, G⟩, ⟨⟨fun _ => 0, rfl, rfl, trivial, ⟨⟨rfl, rfl, rfl, by rw [e], by rw [e]⟩, trivial⟩, injOK_one _ _ _⟩, rfl, rfl, rfl⟩, hK⟩
end Go.Proofs.YtcdlplobniogpaaGreat
namespace Go.Proofs.YtcdlplobniogpaaGreat
open Go
def aff (a b c : Int) (p : Pt) : Int := a * p.1 + b * p.2 + c
theorem seg_x (p q x : Pt) (a b c : Int) : (q.1 - p.1) * aff a b c x = (q.1 - x.1) * aff a b c p + (x.1 - p.1) * aff a b c q + b * crossP p q x := by
 unfold aff crossP cross; grind
theorem seg_y (p q x : Pt) (a b c : Int) : (q.2 - p.2) * aff a b c x = (q.2 - x.2) * aff a b c p + (x.2 - p.2) * aff a b c q - a * crossP p q x := by
 unfold aff crossP cross; grind
theorem bary (p q r x : Pt) (a b c : Int) : crossP p q r * aff a b c x = crossP q r x * aff a b c p + crossP r p x * aff a b c q + crossP p q x * aff a b c r := by
 unfold aff crossP cross; grind
theorem cross_rot (p q r : Pt) : crossP q r p = crossP p q r := by unfold crossP cross; grind
theorem cross_flip (p q r : Pt) : crossP q p r = - crossP p q r := by unfold crossP cross; grind
theorem pos_of_mul {t y : Int} (ht : 0 < t) (h : 0 ≤ t * y) : 0 ≤ y := Int.not_lt.1 fun hy => by
 have := Int.mul_neg_of_pos_of_neg ht hy
 omega
theorem sign_change (c : Nat → Int) : ∀ m : Nat, 0 ≤ c 1 → c (m + 2) ≤ 0 → ∃ i, 1 ≤ i ∧ i ≤ m + 1 ∧ 0 ≤ c i ∧ c (i + 1) ≤ 0
 | 0, h1, h2 => ⟨1, by omega, by omega, h1, h2⟩
 | m + 1, h1, h2 => by
  by_cases h : c (m + 2) ≤ 0
  ·obtain ⟨i, a, b, d, e⟩ := sign_change c m h1 h
   exact ⟨i, a, by omega, d, e⟩
  ·exact ⟨m + 2, by omega, by omega, by omega, h2⟩
theorem valid_first {ps : List Pt} (h : validB ps = true) {i : Nat} (h0 : 0 < i) (hi : i < ps.length) : cmpPt (gp ps 0) (gp ps i) < 0 := by
 simp only [validB, Bool.and_eq_true, all_iff, v1B, Bool.or_eq_true, decide_eq_true_eq, beq_iff_eq] at h
 rcases (h.1.2 i hi).2 with h | h
 ·omega
 ·exact h
theorem cmp_lt {p q : Pt} (h : cmpPt p q < 0) : p.1 < q.1 ∨ p.1 = q.1 ∧ p.2 < q.2 := by
 unfold cmpPt cmpP cmpI at h
 split at h <;> split at h <;> (try split at h) <;> omega
theorem valid_side {ps : List Pt} (h : validB ps = true) (h3 : ¬ ps.length < 3) {i : Nat} (hi : i < ps.length) {k : Nat} (hk : k < ps.length) :
  gp ps k = gp ps i ∨ gp ps k = gp ps ((i + 1) % ps.length) ∨ 0 < crossP (gp ps i) (gp ps ((i + 1) % ps.length)) (gp ps k) := by
 simp only [validB, Bool.and_eq_true, Bool.or_eq_true, decide_eq_true_eq, all_iff, v3B, v2B, beq_iff_eq] at h
 rcases h.2 with h | h
 ·exact absurd h h3
 ·rcases h i hi k hk with (h | h) | h
  ·exact .inl h
  ·exact .inr (.inl h)
  ·exact .inr (.inr h)
theorem len_one {ps : List Pt} (h : validB ps = true) : 1 ≤ ps.length ∧ ps.length ≤ 64 := by simp only [validB, Bool.and_eq_true, decide_eq_true_eq] at h; exact h.1.1
theorem at_corners {ps : List Pt} (h : validB ps = true) {x : Pt} (hx : hasB ps x = true) (a b c : Int) (hc : ∀ i, i < ps.length → 0 ≤ aff a b c (gp ps i)) : 0 ≤ aff a b c x := by
 have hn := (len_one h).1
 unfold hasB at hx
 split at hx
 ·have : gp ps 0 = x := by simpa using hx
  rw [← this]; exact hc 0 (by omega)
 split at hx
 ·rename_i h1 h2
  simp only [Bool.and_eq_true, decide_eq_true_eq, betwB] at hx
  obtain ⟨hz, b1, b2, b3, b4⟩ := hx
  have hl := cmp_lt (valid_first h (i := 1) (by omega) (by omega))
  have c0 := hc 0 (by omega)
  have c1 := hc 1 (by omega)
  rcases hl with hl | ⟨he, hl⟩
  ·refine pos_of_mul (t := (gp ps 1).1 - (gp ps 0).1) (by omega) ?_
   rw [seg_x, hz]
   have g1 := Int.mul_nonneg (show 0 ≤ (gp ps 1).1 - x.1 by omega) c0
   have g2 := Int.mul_nonneg (show 0 ≤ x.1 - (gp ps 0).1 by omega) c1
   omega
  ·refine pos_of_mul (t := (gp ps 1).2 - (gp ps 0).2) (by omega) ?_
   rw [seg_y, hz]
   have g1 := Int.mul_nonneg (show 0 ≤ (gp ps 1).2 - x.2 by omega) c0
   have g2 := Int.mul_nonneg (show 0 ≤ x.2 - (gp ps 0).2 by omega) c1
   omega
 ·rename_i h1 h2
  have h3 : ¬ ps.length < 3 := by omega
  have hs : ∀ i, i < ps.length → 0 ≤ crossP (gp ps i) (gp ps ((i + 1) % ps.length)) x := fun i hi => by
   have := all_iff.1 hx i hi
   simpa [sideB] using this
  have s0 := hs 0 (by omega)
  rw [Nat.mod_eq_of_lt (show 0 + 1 < ps.length by omega)] at s0
  have sn := hs (ps.length - 1) (by omega)
  rw [show ps.length - 1 + 1 = ps.length by omega, Nat.mod_self] at sn
  obtain ⟨i, i1, i2, p1, p2⟩ := sign_change (fun i => crossP (gp ps 0) (gp ps i) x) (ps.length - 3) s0 (by
   show crossP (gp ps 0) (gp ps (ps.length - 3 + 2)) x ≤ 0
   rw [show ps.length - 3 + 2 = ps.length - 1 by omega, cross_flip]; omega)
  have hsi := hs i (by omega)
  rw [Nat.mod_eq_of_lt (show i + 1 < ps.length by omega)] at hsi
  have ht : 0 < crossP (gp ps 0) (gp ps i) (gp ps (i + 1)) := by
   have := valid_side h h3 (i := i) (by omega) (k := 0) (by omega)
   rw [Nat.mod_eq_of_lt (show i + 1 < ps.length by omega)] at this
   rcases this with e | e | e
   ·exact absurd e.symm (lt_ne (valid_first h (by omega) (by omega)))
   ·exact absurd e.symm (lt_ne (valid_first h (by omega) (by omega)))
   ·rw [cross_rot] at e; exact e
  refine pos_of_mul ht ?_
  rw [bary]
  have g1 := Int.mul_nonneg hsi (hc 0 (by omega))
  have g2 := Int.mul_nonneg (show 0 ≤ crossP (gp ps (i + 1)) (gp ps 0) x by rw [cross_flip]; omega) (hc i (by omega))
  have g3 := Int.mul_nonneg p1 (hc (i + 1) (by omega))
  omega
theorem cross_aff (p q x : Pt) : crossP p q x = aff (-(q.2 - p.2)) (q.1 - p.1) ((q.2 - p.2) * p.1 - (q.1 - p.1) * p.2) x := by unfold aff crossP cross; grind
end Go.Proofs.YtcdlplobniogpaaGreat
namespace Go.Proofs.YtcdlplobniogpaaGreat
open Go
def lexLt (a b : Pt) : Prop := a.1 < b.1 ∨ a.1 = b.1 ∧ a.2 < b.2
def lexLe (a b : Pt) : Prop := a.1 < b.1 ∨ a.1 = b.1 ∧ a.2 ≤ b.2
theorem lexLt_trans {a b c : Pt} (h : lexLt a b) (k : lexLt b c) : lexLt a c := by unfold lexLt at *; omega
theorem lexLt_irrefl (a : Pt) : ¬ lexLt a a := by unfold lexLt; omega
theorem lexLe_of_lt {a b : Pt} (h : lexLt a b) : lexLe a b := by unfold lexLt at h; unfold lexLe; omega
theorem lexLe_refl (a : Pt) : lexLe a a := by unfold lexLe; omega
theorem lexLe_cases {a b : Pt} (h : lexLe a b) : lexLt a b ∨ a = b := by
 unfold lexLe at h; unfold lexLt
 rcases h with h | ⟨h1, h2⟩
 ·exact .inl (.inl h)
 ·by_cases h3 : a.2 = b.2
  ·exact .inr (Prod.ext h1 h3)
  ·exact .inl (.inr ⟨h1, by omega⟩)
theorem lexLe_antisymm {a b : Pt} (h : lexLe a b) (k : lexLe b a) : a = b := by
 unfold lexLe at *
 exact Prod.ext (by omega) (by omega)
theorem lex_total (a b : Pt) : lexLt a b ∨ a = b ∨ lexLt b a := by
 unfold lexLt
 by_cases h : a.1 = b.1
 ·by_cases h2 : a.2 = b.2
  ·exact .inr (.inl (Prod.ext h h2))
  ·omega
 ·omega
theorem lex_not {a b : Pt} (h : ¬ lexLt a b) : lexLe b a := by unfold lexLt at h; unfold lexLe; omega
theorem lexLt_not {a b : Pt} (h : lexLt a b) : ¬ lexLe b a := by unfold lexLt at h; unfold lexLe; omega
def cr (u v : Pt) : Int := u.1 * v.2 - u.2 * v.1
def dv (a b : Pt) : Pt := (b.1 - a.1, b.2 - a.2)
def lp (u : Pt) : Prop := 0 < u.1 ∨ u.1 = 0 ∧ 0 < u.2
theorem lp_dv {a b : Pt} : lp (dv a b) ↔ lexLt a b := by unfold lp dv lexLt; simp only; omega
theorem crossP_cr (a b c : Pt) : crossP a b c = cr (dv a b) (dv a c) := by unfold crossP cross cr dv; rfl
theorem crossP_cr' (a b c : Pt) : crossP a b c = cr (dv a b) (dv b c) := by unfold crossP cross cr dv; grind
theorem cr_id (u v w : Pt) : v.1 * cr u w = u.1 * cr v w + w.1 * cr u v := by unfold cr; grind
theorem cr_anti (u v : Pt) : cr u v = - cr v u := by unfold cr; grind
theorem cr_lt {u v w : Pt} (hu : lp u) (hv : lp v) (hw : lp w) (h1 : 0 ≤ cr u v) (h2 : 0 < cr v w) : 0 < cr u w := by
 have hid := cr_id u v w
 rcases hv with hv | ⟨hv, hv2⟩
 ·rcases hu with hu | ⟨hu, hu2⟩
  ·have g1 := Int.mul_pos hu h2
   have g2 : 0 ≤ w.1 * cr u v := Int.mul_nonneg (by unfold lp at hw; omega) h1
   exact Int.not_le.1 fun h => by
    have := Int.mul_nonneg (Int.le_of_lt hv) (show 0 ≤ - cr u w by omega)
    rw [Int.mul_neg] at this
    omega
  ·exfalso
   unfold cr at h1
   rw [hu] at h1
   have := Int.mul_pos hu2 hv
   omega
 ·exfalso
  unfold cr at h2
  rw [hv] at h2
  have hw1 : 0 ≤ w.1 := by unfold lp at hw; omega
  have := Int.mul_nonneg (Int.le_of_lt hv2) hw1
  omega
theorem cr_le {u v w : Pt} (hu : lp u) (hv : lp v) (hw : lp w) (h1 : 0 ≤ cr u v) (h2 : 0 ≤ cr v w) : 0 ≤ cr u w := by
 have hid := cr_id u v w
 have hu1 : 0 ≤ u.1 := by unfold lp at hu; omega
 have hw1 : 0 ≤ w.1 := by unfold lp at hw; omega
 rcases hv with hv | ⟨hv, hv2⟩
 ·have g1 := Int.mul_nonneg hu1 h2
  have g2 := Int.mul_nonneg hw1 h1
  refine pos_of_mul hv ?_
  omega
 ·unfold cr at h1 h2 ⊢
  rw [hv] at h1 h2
  have hw0 : w.1 = 0 := by
   rcases Int.lt_or_eq_of_le hw1 with h | h
   ·have := Int.mul_pos hv2 h
    omega
   ·exact h.symm
  have hw2 : 0 < w.2 := by unfold lp at hw; omega
  rw [hw0]
  have := Int.mul_nonneg hu1 (Int.le_of_lt hw2)
  omega
def E (S : List Pt) (a b : Pt) : Prop := a ∈ S ∧ b ∈ S ∧ a ≠ b ∧ ∀ y ∈ S, 0 < crossP a b y ∨ crossP a b y = 0 ∧ betwB a b y = true
instance (S : List Pt) (a b : Pt) : Decidable (E S a b) := by unfold E; infer_instance
theorem E_next {S : List Pt} {a b b' : Pt} (h : E S a b) (k : E S a b') : b = b' := by
 obtain ⟨_, hb, _, h4⟩ := h
 obtain ⟨_, hb', _, k4⟩ := k
 have e := crossP_swap a b b'
 have h5 := h4 b' hb'
 have k5 := k4 b hb
 simp only [betwB, decide_eq_true_eq] at h5 k5
 exact Prod.ext (by omega) (by omega)
theorem E_sub {S T : List Pt} {a b : Pt} (h : E S a b) (hT : ∀ x ∈ T, x ∈ S) (ha : a ∈ T) (hb : b ∈ T) : E T a b := ⟨ha, hb, h.2.2.1, fun y hy => h.2.2.2 y (hT y hy)⟩
def Edge (S : List Pt) (a b : Pt) : Prop := a ∈ S ∧ b ∈ S ∧ lexLt a b ∧ ∀ y ∈ S, 0 < crossP a b y ∨ crossP a b y = 0 ∧ lexLe a y ∧ lexLe y b
theorem betw_of_lex {a b y : Pt} (h : lexLt a b) (hz : crossP a b y = 0) (h1 : lexLe a y) (h2 : lexLe y b) : betwB a b y = true := by
 unfold crossP cross at hz
 simp only [betwB, decide_eq_true_eq]
 unfold lexLt at h; unfold lexLe at h1 h2
 rcases h with h | ⟨h, h'⟩
 ·have d1 : 0 ≤ y.1 - a.1 := by omega
  have d2 : 0 ≤ b.1 - y.1 := by omega
  have d3 : 0 < b.1 - a.1 := by omega
  have key : ∀ z : Int, 0 ≤ (b.1 - a.1) * z → 0 ≤ z := fun z hz => pos_of_mul d3 hz
  by_cases hs : a.2 ≤ b.2
  ·have e1 := key (y.2 - a.2) (by
    have := Int.mul_nonneg (show 0 ≤ b.2 - a.2 by omega) d1
    omega)
   have e2 := key (b.2 - y.2) (by
    have := Int.mul_nonneg (show 0 ≤ b.2 - a.2 by omega) d2
    have e : (b.1 - a.1) * (b.2 - y.2) = (b.2 - a.2) * (b.1 - y.1) := by
     have : (b.1 - a.1) * (b.2 - y.2) = (b.1 - a.1) * (b.2 - a.2) - (b.1 - a.1) * (y.2 - a.2) := by grind
     rw [this]
     have : (b.2 - a.2) * (b.1 - y.1) = (b.1 - a.1) * (b.2 - a.2) - (b.2 - a.2) * (y.1 - a.1) := by grind
     rw [this]; omega
    rw [e]; exact this)
   omega
  ·have e1 := key (a.2 - y.2) (by
    have := Int.mul_nonneg (show 0 ≤ a.2 - b.2 by omega) d1
    have e : (b.1 - a.1) * (a.2 - y.2) = - ((b.1 - a.1) * (y.2 - a.2)) := by grind
    have e' : (a.2 - b.2) * (y.1 - a.1) = - ((b.2 - a.2) * (y.1 - a.1)) := by grind
    omega)
   have e2 := key (y.2 - b.2) (by
    have := Int.mul_nonneg (show 0 ≤ a.2 - b.2 by omega) d2
    have e : (b.1 - a.1) * (y.2 - b.2) = (a.2 - b.2) * (b.1 - y.1) := by
     have : (b.1 - a.1) * (y.2 - b.2) = (b.1 - a.1) * (y.2 - a.2) - (b.1 - a.1) * (b.2 - a.2) := by grind
     rw [this]
     have : (a.2 - b.2) * (b.1 - y.1) = (b.2 - a.2) * (y.1 - a.1) - (b.1 - a.1) * (b.2 - a.2) := by grind
     rw [this]; omega
    rw [e]; exact this)
   omega
 ·omega
theorem Edge.e {S : List Pt} {a b : Pt} (h : Edge S a b) : E S a b := by
 obtain ⟨h1, h2, h3, h4⟩ := h
 refine ⟨h1, h2, fun e => lexLt_irrefl _ (e ▸ h3), fun y hy => ?_⟩
 rcases h4 y hy with h | ⟨h, k1, k2⟩
 ·exact .inl h
 ·exact .inr ⟨h, betw_of_lex h3 h k1 k2⟩
def popR : List Pt → Pt → List Pt
 | b :: a :: r, x => if crossP a b x ≤ 0 then popR (a :: r) x else b :: a :: r
 | l, _ => l
def pushR (l : List Pt) (x : Pt) : List Pt := x :: popR l x
theorem popR_short {l : List Pt} (x : Pt) (h : l.length ≤ 1) : popR l x = l := by
 match l, h with
 | [], _ => rfl
 | [a], _ => rfl
theorem popR_len : ∀ (l : List Pt) (x : Pt), (popR l x).length ≤ l.length
 | [], _ => by simp [popR]
 | [a], _ => by simp [popR]
 | b :: a :: r, x => by
  simp only [popR]
  split
  ·have := popR_len (a :: r) x
   simp only [List.length_cons] at this ⊢
   omega
  ·exact Nat.le_refl _
theorem popR_mem : ∀ (l : List Pt) (x y : Pt), y ∈ popR l x → y ∈ l
 | [], _, _, h => by simp [popR] at h
 | [a], _, _, h => by simpa [popR] using h
 | b :: a :: r, x, y, h => by
  simp only [popR] at h
  split at h
  ·exact List.mem_cons_of_mem _ (popR_mem _ _ _ h)
  ·exact h
def Lnk (S : List Pt) : List Pt → Prop
 | b :: a :: r => Edge S a b ∧ Lnk S (a :: r)
 | _ => True
structure ChI (S C : List Pt) : Prop where
 ne : C ≠ []
 top : ∀ c, C.head? = some c → c ∈ S ∧ ∀ y ∈ S, lexLe y c
 bot : ∀ c, C.getLast? = some c → c ∈ S ∧ ∀ y ∈ S, lexLe c y
 lnk : Lnk S C
theorem pop_spec {S : List Pt} {x : Pt} (hx : ∀ y ∈ S, lexLt y x) : ∀ (C : List Pt), C ≠ [] → Lnk S C → (∀ c ∈ C, c ∈ S) → (∀ c, C.head? = some c → ∀ y ∈ S, lexLt c y → 0 ≤ crossP c x y) →
  popR C x ≠ [] ∧ (popR C x).getLast? = C.getLast? ∧ Lnk S (popR C x) ∧ (∀ c, (popR C x).head? = some c → c ∈ S ∧ ∀ y ∈ S, lexLt c y → 0 ≤ crossP c x y) ∧ (∀ b a r, popR C x = b :: a :: r → 0 < crossP a b x)
 | [], h, _, _, _ => absurd rfl h
 | [c], _, h2, hS, h3 => by
  simp only [popR]
  refine ⟨by simp, trivial, h2, fun c' hc => ⟨?_, h3 c' hc⟩, by simp⟩
  simp at hc; subst hc; exact hS _ (by simp)
 | b :: a :: r, _, h2, hS, h3 => by
  simp only [popR]
  split
  ·rename_i hc
   have ih := pop_spec hx (a :: r) (by simp) h2.2 (fun c hc => hS c (List.mem_cons_of_mem _ hc)) (fun c hc' y hy hlt => by
    simp at hc'
    subst hc'
    obtain ⟨e1, e2, e3, e4⟩ := h2.1
    have g1 : 0 ≤ crossP a b y := by rcases e4 y hy with h | ⟨h, _⟩ <;> omega
    rw [crossP_cr] at g1 hc ⊢
    refine cr_le (v := dv a b) (lp_dv.2 (hx a e1)) (lp_dv.2 e3) (lp_dv.2 hlt) ?_ g1
    rw [cr_anti]; omega)
   refine ⟨ih.1, ?_, ih.2.2.1, ih.2.2.2.1, ih.2.2.2.2⟩
   rw [ih.2.1]; simp
  ·rename_i hc
   refine ⟨by simp, rfl, h2, fun c hc' => ⟨?_, h3 c hc'⟩, fun b' a' r' he => ?_⟩
   ·simp at hc'; subst hc'; exact hS _ (by simp)
   ·cases he; omega
theorem lnk_left {S : List Pt} {x : Pt} (hx : ∀ y ∈ S, lexLt y x) : ∀ (C : List Pt), Lnk S C → (∀ b a r, C = b :: a :: r → 0 < crossP a b x) → Lnk (S ++ [x]) C
 | [], _, _ => trivial
 | [c], _, _ => trivial
 | b :: a :: r, h, hc => by
  have h1 := hc b a r rfl
  obtain ⟨e1, e2, e3, e4⟩ := h.1
  refine ⟨⟨by simp [e1], by simp [e2], e3, fun y hy => ?_⟩, lnk_left hx (a :: r) h.2 fun b' a' r' he => ?_⟩
  ·rcases List.mem_append.1 hy with hy | hy
   ·exact e4 y hy
   ·simp at hy; subst hy; exact .inl h1
  ·cases he
   obtain ⟨k1, k2, k3, k4⟩ := h.2.1
   have hb := k4 b e2
   have g1 : 0 < crossP a' a b := by
    rcases hb with hb | ⟨_, _, hb⟩
    ·exact hb
    ·exact absurd hb (lexLt_not e3)
   have g2 := h1
   rw [crossP_cr'] at g1 g2
   have g3 := cr_lt (lp_dv.2 k3) (lp_dv.2 e3) (lp_dv.2 (hx b e2)) (Int.le_of_lt g1) g2
   have e : crossP a' a x = cr (dv a' a) (dv a b) + cr (dv a' a) (dv b x) := by unfold crossP cross cr dv; grind
   omega
theorem Lnk_mem {S : List Pt} : ∀ {C : List Pt}, Lnk S C → (∀ c, C.head? = some c → c ∈ S) → ∀ c ∈ C, c ∈ S
 | [], _, _, c, hc => by cases hc
 | [a], _, h, c, hc => by simp at hc; subst hc; exact h _ rfl
 | b :: a :: r, h, hh, c, hc => by
  rcases List.mem_cons.1 hc with rfl | hc
  ·exact hh _ rfl
  ·exact Lnk_mem h.2 (fun c hc => by simp at hc; subst hc; exact h.1.1) c hc
theorem ch_push {S C : List Pt} {x : Pt} (h : ChI S C) (hx : ∀ y ∈ S, lexLt y x) : ChI (S ++ [x]) (pushR C x) := by
 have hm := Lnk_mem h.lnk (fun c hc => (h.top c hc).1)
 obtain ⟨p1, p2, p3, p4, p5⟩ := pop_spec hx C h.ne h.lnk hm (fun c hc y hy hlt => absurd ((h.top c hc).2 y hy) (lexLt_not hlt))
 have hl := lnk_left hx _ p3 p5
 unfold pushR
 refine ⟨by simp, fun c hc => ?_, fun c hc => ?_, ?_⟩
 ·simp at hc; subst hc
  refine ⟨by simp, fun y hy => ?_⟩
  rcases List.mem_append.1 hy with hy | hy
  ·exact lexLe_of_lt (hx y hy)
  ·simp at hy; subst hy; exact lexLe_refl _
 ·have hc' : C.getLast? = some c := by
   rw [← p2, ← hc]
   cases hp : popR C x with
   | nil => exact absurd hp p1
   | cons a r => simp
  obtain ⟨g1, g2⟩ := h.bot c hc'
  refine ⟨by simp [g1], fun y hy => ?_⟩
  rcases List.mem_append.1 hy with hy | hy
  ·exact g2 y hy
  ·simp at hy; subst hy; exact lexLe_of_lt (hx c g1)
 ·cases hp : popR C x with
  | nil => exact absurd hp p1
  | cons a r =>
   rw [hp] at hl p2 p5
   obtain ⟨q1, q2⟩ := p4 a (by rw [hp]; rfl)
   refine ⟨⟨by simp [q1], by simp, hx a q1, fun y hy => ?_⟩, hl⟩
   rcases List.mem_append.1 hy with hy | hy
   ·rcases lex_total y a with hlt | rfl | hgt
    ·cases r with
     | nil =>
      simp at p2
      exact absurd ((h.bot a p2.symm).2 y hy) (lexLt_not hlt)
     | cons a' r' =>
      have g5 := p5 a a' r' rfl
      rw [hp] at p3
      obtain ⟨e1, e2, e3, e4⟩ := p3.1
      have g1 : 0 ≤ crossP a' a y := by rcases e4 y hy with h | ⟨h, _⟩ <;> omega
      rw [crossP_cr'] at g1 g5
      have : cr (dv a' a) (dv a y) = cr (dv y a) (dv a' a) := by unfold cr dv; grind
      rw [this] at g1
      have g3 := cr_lt (lp_dv.2 hlt) (lp_dv.2 e3) (lp_dv.2 (hx a q1)) g1 g5
      refine .inl ?_
      have : crossP a x y = cr (dv y a) (dv a x) := by unfold crossP cross cr dv; grind
      omega
    ·exact .inr ⟨by unfold crossP cross; grind, lexLe_refl _, lexLe_of_lt (hx _ hy)⟩
    ·have := q2 y hy hgt
     rcases Int.lt_or_eq_of_le this with h | h
     ·exact .inl h
     ·exact .inr ⟨h.symm, lexLe_of_lt hgt, lexLe_of_lt (hx y hy)⟩
   ·simp at hy; subst hy
    exact .inr ⟨by unfold crossP cross; grind, lexLe_of_lt (hx a q1), lexLe_refl _⟩
theorem ch_fold : ∀ (rest done C : List Pt), ChI done C → (done ++ rest).Pairwise lexLt → ChI (done ++ rest) (rest.foldl pushR C)
 | [], done, C, h, _ => by simpa using h
 | x :: rest, done, C, h, hs => by
  have := ch_push h (x := x) (fun y hy => by
   rw [List.pairwise_append] at hs
   exact hs.2.2 y hy x (by simp))
  have ih := ch_fold rest (done ++ [x]) (pushR C x) this (by simpa using hs)
  simpa using ih
theorem ch_of {s : List Pt} (hne : s ≠ []) (hs : s.Pairwise lexLt) : ChI s (s.foldl pushR []) := by
 match s, hne with
 | x :: rest, _ =>
  have h0 : ChI [x] [x] := ⟨by simp, fun c hc => by simp at hc; subst hc; simp [lexLe_refl], fun c hc => by simp at hc; subst hc; simp [lexLe_refl], trivial⟩
  exact ch_fold rest [x] [x] h0 hs
end Go.Proofs.YtcdlplobniogpaaGreat
namespace Go.Proofs.YtcdlplobniogpaaGreat
open Go
def ng (p : Pt) : Pt := (-p.1, -p.2)
theorem ng_ng (p : Pt) : ng (ng p) = p := by unfold ng; simp
theorem crossP_ng (a b c : Pt) : crossP (ng a) (ng b) (ng c) = crossP a b c := by unfold crossP cross ng; grind
theorem lexLt_ng {a b : Pt} : lexLt (ng a) (ng b) ↔ lexLt b a := by unfold lexLt ng; simp only; omega
theorem lexLe_ng {a b : Pt} : lexLe (ng a) (ng b) ↔ lexLe b a := by unfold lexLe ng; simp only; omega
theorem minmax_ng (a b c : Int) : (min (-a) (-b) ≤ -c ∧ -c ≤ max (-a) (-b)) ↔ (min a b ≤ c ∧ c ≤ max a b) := by
 constructor <;> intro h <;> omega
theorem betwB_ng (a b c : Pt) : betwB (ng a) (ng b) (ng c) = betwB a b c := by
 have k := minmax_ng a.1 b.1 c.1
 have k2 := minmax_ng a.2 b.2 c.2
 rw [Bool.eq_iff_iff]
 constructor
 ·intro h
  obtain ⟨h1, h2, h3, h4⟩ := of_decide_eq_true h
  exact decide_eq_true ⟨(k.1 ⟨h1, h2⟩).1, (k.1 ⟨h1, h2⟩).2, (k2.1 ⟨h3, h4⟩).1, (k2.1 ⟨h3, h4⟩).2⟩
 ·intro h
  obtain ⟨h1, h2, h3, h4⟩ := of_decide_eq_true h
  exact decide_eq_true ⟨(k.2 ⟨h1, h2⟩).1, (k.2 ⟨h1, h2⟩).2, (k2.2 ⟨h3, h4⟩).1, (k2.2 ⟨h3, h4⟩).2⟩
theorem popR_ng : ∀ (l : List Pt) (x : Pt), popR (l.map ng) (ng x) = (popR l x).map ng
 | [], x => rfl
 | [a], x => rfl
 | b :: a :: r, x => by
  simp only [List.map_cons, popR, crossP_ng]
  split
  ·exact popR_ng (a :: r) x
  ·rfl
theorem fold_ng : ∀ (l C : List Pt), (l.map ng).foldl pushR (C.map ng) = (l.foldl pushR C).map ng
 | [], C => rfl
 | x :: l, C => by
  simp only [List.map_cons, List.foldl_cons]
  have : pushR (C.map ng) (ng x) = (pushR C x).map ng := by simp [pushR, popR_ng]
  rw [this]
  exact fold_ng l _
theorem mem_map_ng {l : List Pt} {p : Pt} : ng p ∈ l.map ng ↔ p ∈ l := by
 constructor
 ·intro h
  obtain ⟨q, hq, e⟩ := List.mem_map.1 h
  have : p = q := by rw [← ng_ng p, ← e, ng_ng]
  rw [this]; exact hq
 ·exact fun h => List.mem_map.2 ⟨p, h, rfl⟩
theorem E_ng {S T : List Pt} (hT : ∀ x, x ∈ T ↔ ng x ∈ S) {a b : Pt} (h : E S a b) : E T (ng a) (ng b) := by
 obtain ⟨h1, h2, h3, h4⟩ := h
 refine ⟨(hT _).2 (by rw [ng_ng]; exact h1), (hT _).2 (by rw [ng_ng]; exact h2), fun e => h3 (by rw [← ng_ng a, e, ng_ng]), fun y hy => ?_⟩
 have := h4 (ng y) ((hT y).1 hy)
 rw [← crossP_ng, ng_ng, ← betwB_ng, ng_ng] at this
 exact this
def Lk (R : Pt → Pt → Prop) : List Pt → Prop
 | a :: b :: r => R a b ∧ Lk R (b :: r)
 | _ => True
theorem Lk_append {R : Pt → Pt → Prop} : ∀ {l r : List Pt} {m : Pt}, Lk R (l ++ [m]) → Lk R (m :: r) → Lk R (l ++ m :: r)
 | [], r, m, _, h => h
 | [a], r, m, h, k => ⟨h.1, k⟩
 | a :: b :: l, r, m, h, k => ⟨h.1, Lk_append (l := b :: l) h.2 k⟩
theorem Lk_get {R : Pt → Pt → Prop} : ∀ {l : List Pt}, Lk R l → ∀ i, i + 1 < l.length → R (gp l i) (gp l (i + 1))
 | a :: b :: r, h, 0, _ => h.1
 | a :: b :: r, h, i + 1, hi => by
  have := Lk_get (l := b :: r) h.2 i (by simpa using hi)
  simpa [gp] using this
 | [], _, i, hi => by simp at hi
 | [a], _, i, hi => by simp at hi
theorem Lk_mono {R R' : Pt → Pt → Prop} (h : ∀ a b, R a b → R' a b) : ∀ {l : List Pt}, Lk R l → Lk R' l
 | [], _ => trivial
 | [_], _ => trivial
 | _ :: _ :: _, ⟨h1, h2⟩ => ⟨h _ _ h1, Lk_mono h h2⟩
theorem Lk_snoc {R : Pt → Pt → Prop} {l : List Pt} {a b : Pt} (h : Lk R (l ++ [a])) (k : R a b) : Lk R (l ++ [a] ++ [b]) := by
 have := Lk_append (R := R) (l := l) (m := a) (r := [b]) h ⟨k, trivial⟩
 simpa using this
theorem Lnk_rev {S : List Pt} : ∀ {C : List Pt}, Lnk S C → Lk (Edge S) C.reverse
 | [], _ => trivial
 | [a], _ => trivial
 | b :: a :: r, h => by
  have ih := Lnk_rev (C := a :: r) h.2
  rw [List.reverse_cons, List.reverse_cons]
  rw [List.reverse_cons] at ih
  exact Lk_snoc ih h.1
theorem Lk_map {R R' : Pt → Pt → Prop} (h : ∀ a b, R a b → R' (ng a) (ng b)) : ∀ {l : List Pt}, Lk R l → Lk R' (l.map ng)
 | [], _ => trivial
 | [_], _ => trivial
 | _ :: _ :: _, ⟨h1, h2⟩ => ⟨h _ _ h1, Lk_map h (l := _ :: _) h2⟩
def lowP (s : List Pt) : List Pt := (s.foldl pushR []).tail.reverse
def highP (s : List Pt) : List Pt := (s.reverse.foldl pushR []).tail.reverse
theorem low_spec {s : List Pt} (hne : s ≠ []) (hs : s.Pairwise lexLt) : ∃ mx, mx ∈ s ∧ (∀ y ∈ s, lexLe y mx) ∧ Lk (fun a b => E s a b ∧ lexLt a b) (lowP s ++ [mx]) ∧ ∃ mn r, lowP s ++ [mx] = mn :: r ∧ mn ∈ s ∧ ∀ y ∈ s, lexLe mn y := by
 have h := ch_of hne hs
 unfold lowP
 generalize s.foldl pushR [] = C at h
 match C, h with
 | [], h => exact absurd rfl h.ne
 | x :: r, h =>
  obtain ⟨t1, t2⟩ := h.top x rfl
  refine ⟨x, t1, t2, ?_, ?_⟩
  ·have := Lnk_rev h.lnk
   rw [List.reverse_cons] at this
   exact Lk_mono (fun a b e => ⟨e.e, e.2.2.1⟩) this
  ·have e : List.tail (x :: r) = r := rfl
   rw [e]
   have hl : (x :: r).reverse = r.reverse ++ [x] := by simp
   cases hr : (x :: r).reverse with
   | nil => simp at hr
   | cons m q =>
    refine ⟨m, q, by rw [← hl, hr], ?_⟩
    refine h.bot m ?_
    have : (x :: r) = q.reverse ++ [m] := by rw [← List.reverse_reverse (x :: r), hr]; simp
    rw [this]; simp
theorem high_spec {s : List Pt} (hne : s ≠ []) (hs : s.Pairwise lexLt) : ∃ mn, mn ∈ s ∧ (∀ y ∈ s, lexLe mn y) ∧ Lk (fun a b => E s a b ∧ lexLt b a) (highP s ++ [mn]) ∧ ∃ mx r, highP s ++ [mn] = mx :: r ∧ mx ∈ s ∧ ∀ y ∈ s, lexLe y mx := by
 have hne' : s.reverse.map ng ≠ [] := by simpa using hne
 have hs' : (s.reverse.map ng).Pairwise lexLt := by
  rw [List.pairwise_map, List.pairwise_reverse]
  exact hs.imp fun h => lexLt_ng.2 h
 obtain ⟨mx, h1, h2, h3, mn, r, h4, h5, h6⟩ := low_spec hne' hs'
 have hT : ∀ x, x ∈ s ↔ ng x ∈ s.reverse.map ng := fun x => by rw [mem_map_ng, List.mem_reverse]
 have e : lowP (s.reverse.map ng) = (highP s).map ng := by
  unfold lowP highP
  have := fold_ng s.reverse []
  rw [List.map_nil] at this
  rw [this]
  simp [List.map_tail]
 rw [e] at h3 h4
 have em : ∀ l : List Pt, (l.map ng).map ng = l := fun l => by
  rw [List.map_map]
  have : ng ∘ ng = id := funext ng_ng
  rw [this, List.map_id]
 refine ⟨ng mx, (hT _).2 (by rw [ng_ng]; exact h1), fun y hy => ?_, ?_, ng mn, r.map ng, ?_, (hT _).2 (by rw [ng_ng]; exact h5), fun y hy => ?_⟩
 ·have := h2 (ng y) ((hT y).1 hy)
  rw [← ng_ng mx] at this
  exact lexLe_ng.1 this
 ·have := Lk_map (R' := fun a b => E s a b ∧ lexLt b a) (fun a b h => ⟨E_ng hT h.1, lexLt_ng.2 h.2⟩) h3
  rw [List.map_append, em] at this
  exact this
 ·have := congrArg (List.map ng) h4
  rw [List.map_append, em] at this
  exact this
 ·have := h6 (ng y) ((hT y).1 hy)
  rw [← ng_ng mn] at this
  exact lexLe_ng.1 this
structure Cyc (S p : List Pt) : Prop where
 two : 2 ≤ p.length
 fst : ∀ y ∈ S, lexLe (gp p 0) y
 inj : ∀ i j, i < j → j < p.length → gp p i ≠ gp p j
 side : ∀ i, i < p.length → E S (gp p i) (gp p ((i + 1) % p.length))
theorem gp_append_left {l r : List Pt} {i : Nat} (h : i < l.length) : gp (l ++ r) i = gp l i := by
 unfold gp; simp [List.getD_eq_getElem?_getD, List.getElem?_append_left h]
theorem gp_append_right {l r : List Pt} {i : Nat} (h : l.length ≤ i) : gp (l ++ r) i = gp r (i - l.length) := by
 unfold gp; simp [List.getD_eq_getElem?_getD, List.getElem?_append_right h]
theorem gp_mem {l : List Pt} {i : Nat} (h : i < l.length) : gp l i ∈ l := by
 unfold gp; simp [List.getD_eq_getElem?_getD, List.getElem?_eq_getElem h]
theorem mem_gp {l : List Pt} {x : Pt} (h : x ∈ l) : ∃ i, i < l.length ∧ gp l i = x := by
 obtain ⟨i, hi, e⟩ := List.getElem_of_mem h
 exact ⟨i, hi, by unfold gp; simp [List.getD_eq_getElem?_getD, List.getElem?_eq_getElem hi, e]⟩
theorem Lk_lt {l : List Pt} (h : Lk lexLt l) : ∀ j i, i < j → j < l.length → lexLt (gp l i) (gp l j)
 | 0, i, hi, _ => by omega
 | j + 1, i, hi, hj => by
  have h1 := Lk_get h j hj
  by_cases e : i = j
  ·subst e; exact h1
  ·exact lexLt_trans (Lk_lt h j i (by omega) (by omega)) h1
theorem Lk_gt {l : List Pt} (h : Lk (fun a b => lexLt b a) l) : ∀ j i, i < j → j < l.length → lexLt (gp l j) (gp l i)
 | 0, i, hi, _ => by omega
 | j + 1, i, hi, hj => by
  have h1 := Lk_get h j hj
  by_cases e : i = j
  ·subst e; exact h1
  ·exact lexLt_trans h1 (Lk_gt h j i (by omega) (by omega))
theorem cyc_of {s : List Pt} (h2 : 2 ≤ s.length) (hs : s.Pairwise lexLt) : Cyc s (lowP s ++ highP s) := by
 have hne : s ≠ [] := fun e => by rw [e] at h2; simp at h2
 obtain ⟨mx, l1, l2, l3, mn, lr, l4, l5, l6⟩ := low_spec hne hs
 obtain ⟨mn', u1, u2, u3, mx', ur, u4, u5, u6⟩ := high_spec hne hs
 obtain rfl : mn = mn' := lexLe_antisymm (l6 _ u1) (u2 _ l5)
 obtain rfl : mx = mx' := lexLe_antisymm (u6 _ l1) (l2 _ u5)
 have hmm : mn ≠ mx := fun e => by
  match s, h2 with
  | a :: b :: r, _ =>
   have hab : lexLt a b := by
    rw [List.pairwise_cons] at hs
    exact hs.1 b (by simp)
   have h1 := l6 a (by simp)
   have h3 := l2 b (by simp)
   rw [e] at h1
   unfold lexLt at hab; unfold lexLe at h1 h3
   omega
 -- both chains begin with something
 obtain ⟨lt, hlt⟩ : ∃ lt, lowP s = mn :: lt := by
  cases hl : lowP s with
  | nil => rw [hl] at l4; simp at l4; exact absurd l4.1.symm hmm
  | cons a r => rw [hl] at l4; simp at l4; exact ⟨r, by rw [l4.1]⟩
 obtain ⟨ht, hht⟩ : ∃ ht, highP s = mx :: ht := by
  cases hl : highP s with
  | nil => rw [hl] at u4; simp at u4; exact absurd u4.1 hmm
  | cons a r => rw [hl] at u4; simp at u4; exact ⟨r, by rw [u4.1]⟩
 have hall : Lk (E s) (lowP s ++ highP s ++ [mn]) := by
  have e1 := Lk_mono (fun a b h => h.1) l3
  have e2 := Lk_mono (fun a b h => h.1) u3
  rw [hht] at e2 ⊢
  have := Lk_append (l := lowP s) (m := mx) (r := ht ++ [mn]) e1 (by simpa using e2)
  simpa using this
 have g0 : gp (lowP s ++ highP s) 0 = mn := by rw [hlt]; rfl
 have len : (lowP s ++ highP s).length = (lowP s).length + (highP s).length := by simp
 have n1 : 0 < (lowP s).length := by rw [hlt]; simp
 have n2 : 0 < (highP s).length := by rw [hht]; simp
 have side : ∀ i, i < (lowP s ++ highP s).length → E s (gp (lowP s ++ highP s) i) (gp (lowP s ++ highP s) ((i + 1) % (lowP s ++ highP s).length)) := by
  intro i hi
  have := Lk_get hall i (by simp at hi ⊢; omega)
  rw [gp_append_left hi] at this
  by_cases e : i + 1 < (lowP s ++ highP s).length
  ·rw [gp_append_left e] at this
   rw [Nat.mod_eq_of_lt e]; exact this
  ·have e' : i + 1 = (lowP s ++ highP s).length := by omega
   rw [e', gp_append_right (Nat.le_refl _), Nat.sub_self] at this
   rw [e', Nat.mod_self, g0]
   exact this
 have lows : ∀ i, i < (lowP s).length → ∃ b, E s (gp (lowP s) i) b ∧ lexLt (gp (lowP s) i) b := fun i hi => by
  have := Lk_get l3 i (by simp; omega)
  rw [gp_append_left hi] at this
  exact ⟨_, this⟩
 have highs : ∀ i, i < (highP s).length → ∃ b, E s (gp (highP s) i) b ∧ lexLt b (gp (highP s) i) := fun i hi => by
  have := Lk_get u3 i (by simp; omega)
  rw [gp_append_left hi] at this
  exact ⟨_, this⟩
 refine ⟨by omega, by rw [g0]; exact l6, fun i j hij hj e => ?_, side⟩
 by_cases hjl : j < (lowP s).length
 ·rw [gp_append_left hjl, gp_append_left (by omega)] at e
  have := Lk_lt (Lk_mono (fun a b h => h.2) l3) j i hij (by simp; omega)
  rw [gp_append_left hjl, gp_append_left (show i < (lowP s).length by omega), e] at this
  exact lexLt_irrefl _ this
 ·rw [gp_append_right (by omega : (lowP s).length ≤ j)] at e
  by_cases hil : i < (lowP s).length
  ·rw [gp_append_left hil] at e
   obtain ⟨b, b1, b2⟩ := lows i hil
   obtain ⟨c, c1, c2⟩ := highs (j - (lowP s).length) (by omega)
   rw [← e] at c1 c2
   have := E_next b1 c1
   subst this
   exact lexLt_irrefl _ (lexLt_trans b2 c2)
  ·rw [gp_append_right (by omega : (lowP s).length ≤ i)] at e
   have := Lk_gt (Lk_mono (fun a b h => h.2) u3) (j - (lowP s).length) (i - (lowP s).length) (by omega) (by simp; omega)
   rw [gp_append_left (by omega), gp_append_left (by omega), e] at this
   exact lexLt_irrefl _ this
theorem ext_gp {p q : List Pt} (hl : p.length = q.length) (h : ∀ i, i < p.length → gp p i = gp q i) : p = q := by
 refine List.ext_getElem hl fun i h1 h2 => ?_
 have := h i h1
 simpa [gp, List.getD_eq_getElem?_getD, List.getElem?_eq_getElem h1, List.getElem?_eq_getElem h2] using this
theorem cyc_unique {S p q : List Pt} (hp : Cyc S p) (hq : Cyc S q) : p = q := by
 have h0 : gp p 0 = gp q 0 := by
  have a := (hp.side 0 (by have := hp.two; omega)).1
  have b := (hq.side 0 (by have := hq.two; omega)).1
  exact lexLe_antisymm (hp.fst _ b) (hq.fst _ a)
 have main : ∀ {p q : List Pt}, Cyc S p → Cyc S q → gp p 0 = gp q 0 → ∀ i, i < p.length → i < q.length → gp p i = gp q i := by
  intro p q hp hq h0 i
  induction i with
  | zero => intro _ _; exact h0
  | succ i ih =>
   intro h1 h2
   have e := ih (by omega) (by omega)
   have a := hp.side i (by omega)
   have b := hq.side i (by omega)
   rw [Nat.mod_eq_of_lt h1] at a
   rw [Nat.mod_eq_of_lt h2, ← e] at b
   exact E_next a b
 have le : ∀ {p q : List Pt}, Cyc S p → Cyc S q → gp p 0 = gp q 0 → p.length ≤ q.length := by
  intro p q hp hq h0
  refine Nat.not_lt.1 fun hlt => ?_
  have h2 := hq.two
  have e := main hp hq h0 (q.length - 1) (by omega) (by omega)
  have a := hp.side (q.length - 1) (by omega)
  have b := hq.side (q.length - 1) (by omega)
  rw [Nat.sub_add_cancel (by omega), Nat.mod_eq_of_lt hlt] at a
  rw [Nat.sub_add_cancel (by omega), Nat.mod_self, ← e, ← h0] at b
  exact hp.inj 0 q.length (by omega) hlt (E_next b a)
 have hl : p.length = q.length := Nat.le_antisymm (le hp hq h0) (le hq hp h0.symm)
 exact ext_gp hl fun i hi => main hp hq h0 i hi (by omega)
end Go.Proofs.YtcdlplobniogpaaGreat
namespace Go.Proofs.YtcdlplobniogpaaGreat
open Go Go.V Go.RowKit
theorem Clone_call {nt : Nat} {v : Value} {ps : List Pt} {M : Mem} {G : Gh} {K : SV → St → Prop} (hv : Pts M v ps) (hn : 1 ≤ ps.length) (hn' : ps.length ≤ 100000)
  (hK : K (.row 0) ⟨[], [(0, some (.row 44 2 ps.length (cellsP ps)))], 1, M, nt, G⟩) :
  VCall Tryz.prog 67 [.v v] ⟨[], [], 0, M, nt, G⟩ K := by
 obtain ⟨ad, c, rfl⟩ := hv.shape
 obtain ⟨_, hm, hrd⟩ := hv.cellsOf
 obtain ⟨ad', rfl, _⟩ := hrd M (Mem.le_refl _) 0 (by omega)
 refine VCall.post ?_
 refine VCall.inline cxOK Tryz.func67 rfl rfl rfl [] [] trivial trivial ?_
 intro val f0
 repeat (first | refine VIf.tt ?_ | refine VIf.ff ?_)
 refine VSl.mk ps.length (cellsP ps) hv ?_
 refine VFact.mk (by simp only; omega) ?_
 refine VFact.mk (fun _ _ h => h) ?_
 refine VFact.mk (fun _ => rfl) ?_
 refine ⟨_, ⟨[], [(0, some (.row 44 2 ps.length (cellsP ps)))], 1, M, nt, G⟩, ⟨⟨fun _ => 1, rfl, rfl, trivial, ⟨⟨rfl, rfl, rfl, ?_, ?_⟩, trivial⟩, injOK_one _ _ _⟩, rfl, rfl, rfl⟩, hK⟩
 ·exact (Nat.zero_add _).symm
 ·exact (List.nil_append _).symm
def injB (r : Nat → Nat) : List (Nat × Option OE) → Bool
 | [] => true
 | (i, _) :: l => (l.all fun p => Nat.beq i p.1 || !(Nat.beq (r i) (r p.1))) && injB r l
theorem injOK_b {r : Nat → Nat} : ∀ {l : List (Nat × Option OE)}, injB r l = true → injOK r l
 | [], _ => trivial
 | (i, e) :: l, h => by
  simp only [injB, Bool.and_eq_true, List.all_eq_true, Bool.or_eq_true, Bool.not_eq_true'] at h
  refine ⟨fun j hj => ?_, injOK_b h.2⟩
  obtain ⟨p, hp, rfl⟩ := List.mem_map.1 hj
  rcases h.1 p hp with h | h
  ·exact .inl (Nat.eq_of_beq_eq_true h)
  ·refine .inr fun e => ?_
   rw [e] at h
   have : Nat.beq (r p.1) (r p.1) = true := Nat.beq_refl _
   rw [this] at h; cases h
set_option maxHeartbeats 2000000 in
theorem Push_call0 {s : List Pt} {z : Int} {nt : Nat} {n m : Nat} {cs ds : List Value} {C : List Pt} {x : Pt} {M : Mem} {G : Gh} {K : SV → St → Prop} (hn : n = C.length) (hc : cs = cellsP C.reverse) (hlen : C.length ≤ 100000) (hC : ∀ p ∈ C, isC p.1 ∧ isC p.2) (hx : isC x.1 ∧ isC x.2)
  (hK : K (.v (.tuple #[])) ⟨[(4, .box 0 0), (5, .box 2 0), (6, .box 4 0), (22, .row 5), (3, .row 5), (23, .v (.int .i64 s.length)), (24, .v (.int .i64 z))], [(0, some (.box 201 [.row 1])), (1, some (.row 44 2 (pushR C x).length (cellsP (pushR C x).reverse))), (2, some (.box 201 [.row 3])), (3, some (.row 44 2 m ds)), (4, some (.box 202 [.clo 180 [.box 0 0] []])), (5, some (.row 44 2 s.length (cellsP s)))], 6, M, nt, G⟩) :
  VCall Tryz.prog 180 [.box 0 0, .v (ptv x)] ⟨[(4, .box 0 0), (5, .box 2 0), (6, .box 4 0), (22, .row 5), (3, .row 5), (23, .v (.int .i64 s.length)), (24, .v (.int .i64 z))], [(0, some (.box 201 [.row 1])), (1, some (.row 44 2 n cs)), (2, some (.box 201 [.row 3])), (3, some (.row 44 2 m ds)), (4, some (.box 202 [.clo 180 [.box 0 0] []])), (5, some (.row 44 2 s.length (cellsP s)))], 6, M, nt, G⟩ K := by
 subst hn; subst hc
 refine VCall.post ?_
 refine VCall.inline cxOK Tryz.func180 rfl rfl rfl [(4, .box 0 0), (5, .box 2 0), (6, .box 4 0), (22, .row 5), (3, .row 5)] [(23, .int .i64 s.length), (24, .int .i64 z)] (by repeat' constructor) (by repeat' constructor) ?_
 intro val f0
 refine VCode.loopG cxOK (fun m => m = fun _ => none) rfl (List Pt) (fun R => ⟨[(0, .box 0 0), (3, .box 11 0), (4, .row 1)], [(0, some (.box 201 [.row 12])), (1, some (.row 44 2 R.length (cellsP R.reverse))), (2, some (.box 201 [.row 3])), (3, some (.row 44 2 m ds)), (4, some (.box 202 [.clo 180 [.box 0 0] []])), (5, some (.row 44 2 s.length (cellsP s))), (6, some (.gh 4 (val 4) (.box 0 0))), (7, some (.gh 5 (val 5) (.box 2 0))), (8, some (.gh 6 (val 6) (.box 4 0))), (9, some (.gh 22 (val 22) (.row 5))), (10, some (.gh 3 (val 3) (.row 5))), (11, some (.box 44 [.v (.int .i64 x.1), .v (.int .i64 x.2)]))], 13, M, 39, ⟨fun _ => none, none, f0⟩⟩)
  (fun R => popR R x = popR C x ∧ R.length ≤ C.length ∧ ∀ p ∈ R, p ∈ C) (fun R => R.length) C ⟨rfl, Nat.le_refl _, fun p hp => hp⟩ ?_ ?_
 ·refine Wk.mk' (fun i => if i = 12 then 1 else i) (by repeat' constructor) (by repeat' constructor) (injOK_b rfl) rfl rfl rfl
 rintro R ⟨hp1, hp2, hp3⟩ m' rfl
 refine VDraw.go (by kernel_rfl) ?_
 refine VIf.mk (fun h1 => ?_) (fun h1 => ?_)
 ·have h1 : 1 < R.length := by have := of_decide_eq_true h1; omega
  obtain ⟨b, a, r, rfl⟩ : ∃ b a r, R = b :: a :: r := by
   match R, h1 with
   | b :: a :: r, _ => exact ⟨b, a, r, rfl⟩
  have hl : (b :: a :: r).length = r.length + 2 := rfl
  have hlr : (b :: a :: r).reverse.length = r.length + 2 := by simp
  have e1 : gp (b :: a :: r).reverse r.length = a := by simp [gp, List.getD_eq_getElem?_getD]
  have e2 : gp (b :: a :: r).reverse (r.length + 1) = b := by simp [gp, List.getD_eq_getElem?_getD]
  have ha := hC a (hp3 a (by simp))
  have hb := hC b (hp3 b (by simp))
  repeat (first | refine VIf.tt ?_ | refine VIf.ff ?_)
  refine VArith.ok (by first | omega | (simp only; omega)) (by first | omega | (simp only; omega)) ?_
  repeat (first | refine VIf.tt ?_ | refine VIf.ff ?_)
  refine VIdxR.mk r.length (by omega) (by omega) ?_
  repeat (first | refine VIf.tt ?_ | refine VIf.ff ?_)
  refine VCells.mk [.int .i64 a.1, .int .i64 a.2] rfl (by have := rowP_get (b :: a :: r).reverse (i := r.length) (by omega); rw [e1] at this; exact this) ?_
  repeat (first | refine VIf.tt ?_ | refine VIf.ff ?_)
  refine VArith.ok (by first | omega | (simp only; omega)) (by first | omega | (simp only; omega)) ?_
  repeat (first | refine VIf.tt ?_ | refine VIf.ff ?_)
  refine VIdxR.mk (r.length + 1) (by omega) (by omega) ?_
  repeat (first | refine VIf.tt ?_ | refine VIf.ff ?_)
  refine VCells.mk [.int .i64 b.1, .int .i64 b.2] rfl (by have := rowP_get (b :: a :: r).reverse (i := r.length + 1) (by omega); rw [e2] at this; exact this) ?_
  repeat (first | refine VIf.tt ?_ | refine VIf.ff ?_)
  refine VFn.p (turn_fn _ _ _ _ _ _ _ ha.1 ha.2 hb.1 hb.2 hx.1 hx.2) ?_
  repeat (first | refine VIf.tt ?_ | refine VIf.ff ?_)
  refine VIf.mk (fun hc => ?_) (fun hc => ?_)
  ·have hc : crossP a b x ≤ 0 := of_decide_eq_true hc
   refine VArith.ok (by first | omega | (simp only; omega)) (by first | omega | (simp only; omega)) ?_
   refine VBnd.mk (r.length + 1) (by omega) (by omega) ?_
   refine ⟨rfl, a :: r, ⟨?_, ?_, ?_⟩, ?_, ?_⟩
   ·rw [← hp1]; simp only [popR]; rw [if_pos hc]
   ·have : (a :: r).length = r.length + 1 := rfl
    omega
   ·exact fun p hp => hp3 p (List.mem_cons_of_mem _ hp)
   ·simp
   ·have e : List.take ((r.length + 1) * 2) (cellsP (b :: a :: r).reverse) = cellsP (a :: r).reverse := by
     rw [cellsP_take, List.reverse_cons, List.take_append_of_le_length (by simp), List.take_of_length_le (by simp)]
    exact Wk.mk' (fun i => if i = 1 then 13 else i) (by repeat' constructor) (by repeat' (first | exact e.symm | constructor)) (injOK_b rfl) rfl rfl rfl
  ·have hc : ¬ crossP a b x ≤ 0 := of_decide_eq_false hc
   have hend : popR (b :: a :: r) x = b :: a :: r := by simp only [popR]; rw [if_neg hc]
   have hlen' : (b :: a :: r).length ≤ 100000 := by omega
   generalize b :: a :: r = R at *
   refine VFact.mk (by simp only; omega) ?_
   refine VFact.mk (fun _ _ h => h) ?_
   refine VFact.mk (fun _ => rfl) ?_
   repeat refine VFact.mk rfl ?_
   have hpu : pushR C x = x :: R := by unfold pushR; rw [← hp1, hend]
   have el : (pushR C x).length = R.length + 1 := by rw [hpu]; rfl
   have ec : cellsP R.reverse ++ ([Value.int .i64 x.1, .int .i64 x.2] ++ []) = cellsP (pushR C x).reverse := by rw [hpu, List.reverse_cons]; simp [cellsP]
   refine ⟨.v (.tuple #[]), _, ?_, hK⟩
   refine ⟨⟨fun i => if i = 1 then 14 else i, rfl, rfl, ?_, ?_, ?_⟩, rfl, rfl, rfl⟩
   ·repeat' constructor
   ·repeat' (first | exact el | exact ec.symm | exact el.symm | exact ec | constructor)
   ·exact injOK_b rfl
 ·have hend : popR R x = R := popR_short x (by have := of_decide_eq_false h1; omega)
  have hlen' : R.length ≤ 100000 := by omega
  repeat (first | refine VIf.tt ?_ | refine VIf.ff ?_)
  refine VFact.mk (by simp only; omega) ?_
  refine VFact.mk (fun _ _ h => h) ?_
  refine VFact.mk (fun _ => rfl) ?_
  repeat refine VFact.mk rfl ?_
  have hpu : pushR C x = x :: R := by unfold pushR; rw [← hp1, hend]
  have el : (pushR C x).length = R.length + 1 := by rw [hpu]; rfl
  have ec : cellsP R.reverse ++ ([Value.int .i64 x.1, .int .i64 x.2] ++ []) = cellsP (pushR C x).reverse := by rw [hpu, List.reverse_cons]; simp [cellsP]
  refine ⟨.v (.tuple #[]), _, ?_, hK⟩
  refine ⟨⟨fun i => if i = 1 then 14 else i, rfl, rfl, ?_, ?_, ?_⟩, rfl, rfl, rfl⟩
  ·repeat' constructor
  ·repeat' (first | exact el | exact ec.symm | exact el.symm | exact ec | constructor)
  ·exact injOK_b rfl
set_option maxHeartbeats 2000000 in
theorem Push_call2 {nt : Nat} {n m : Nat} {cs ds : List Value} {C : List Pt} {x : Pt} {M : Mem} {G : Gh} {K : SV → St → Prop} (hn : n = C.length) (hc : cs = cellsP C.reverse) (hlen : C.length ≤ 100000) (hC : ∀ p ∈ C, isC p.1 ∧ isC p.2) (hx : isC x.1 ∧ isC x.2)
  (hK : K (.v (.tuple #[])) ⟨[(4, .box 0 0), (5, .box 2 0), (6, .box 4 0)], [(2, some (.box 201 [.row 3])), (3, some (.row 44 2 (pushR C x).length (cellsP (pushR C x).reverse))), (0, some (.box 201 [.row 1])), (1, some (.row 44 2 m ds)), (4, some (.box 202 [.clo 180 [.box 2 0] []]))], 5, M, nt, G⟩) :
  VCall Tryz.prog 180 [.box 2 0, .v (ptv x)] ⟨[(4, .box 0 0), (5, .box 2 0), (6, .box 4 0)], [(2, some (.box 201 [.row 3])), (3, some (.row 44 2 n cs)), (0, some (.box 201 [.row 1])), (1, some (.row 44 2 m ds)), (4, some (.box 202 [.clo 180 [.box 2 0] []]))], 5, M, nt, G⟩ K := by
 subst hn; subst hc
 refine VCall.post ?_
 refine VCall.inline cxOK Tryz.func180 rfl rfl rfl [(4, .box 0 0), (5, .box 2 0), (6, .box 4 0)] [] (by repeat' constructor) (by repeat' constructor) ?_
 intro val f0
 refine VCode.loopG cxOK (fun m => m = fun _ => none) rfl (List Pt) (fun R => ⟨[(0, .box 2 0), (3, .box 8 0), (4, .row 3)], [(2, some (.box 201 [.row 9])), (3, some (.row 44 2 R.length (cellsP R.reverse))), (0, some (.box 201 [.row 1])), (1, some (.row 44 2 m ds)), (4, some (.box 202 [.clo 180 [.box 2 0] []])), (5, some (.gh 4 (val 4) (.box 0 0))), (6, some (.gh 5 (val 5) (.box 2 0))), (7, some (.gh 6 (val 6) (.box 4 0))), (8, some (.box 44 [.v (.int .i64 x.1), .v (.int .i64 x.2)]))], 10, M, 39, ⟨fun _ => none, none, f0⟩⟩)
  (fun R => popR R x = popR C x ∧ R.length ≤ C.length ∧ ∀ p ∈ R, p ∈ C) (fun R => R.length) C ⟨rfl, Nat.le_refl _, fun p hp => hp⟩ ?_ ?_
 ·refine Wk.mk' (fun i => if i = 9 then 3 else i) (by repeat' constructor) (by repeat' constructor) (injOK_b rfl) rfl rfl rfl
 rintro R ⟨hp1, hp2, hp3⟩ m' rfl
 refine VDraw.go (by kernel_rfl) ?_
 refine VIf.mk (fun h1 => ?_) (fun h1 => ?_)
 ·have h1 : 1 < R.length := by have := of_decide_eq_true h1; omega
  obtain ⟨b, a, r, rfl⟩ : ∃ b a r, R = b :: a :: r := by
   match R, h1 with
   | b :: a :: r, _ => exact ⟨b, a, r, rfl⟩
  have hl : (b :: a :: r).length = r.length + 2 := rfl
  have hlr : (b :: a :: r).reverse.length = r.length + 2 := by simp
  have e1 : gp (b :: a :: r).reverse r.length = a := by simp [gp, List.getD_eq_getElem?_getD]
  have e2 : gp (b :: a :: r).reverse (r.length + 1) = b := by simp [gp, List.getD_eq_getElem?_getD]
  have ha := hC a (hp3 a (by simp))
  have hb := hC b (hp3 b (by simp))
  repeat (first | refine VIf.tt ?_ | refine VIf.ff ?_)
  refine VArith.ok (by first | omega | (simp only; omega)) (by first | omega | (simp only; omega)) ?_
  repeat (first | refine VIf.tt ?_ | refine VIf.ff ?_)
  refine VIdxR.mk r.length (by omega) (by omega) ?_
  repeat (first | refine VIf.tt ?_ | refine VIf.ff ?_)
  refine VCells.mk [.int .i64 a.1, .int .i64 a.2] rfl (by have := rowP_get (b :: a :: r).reverse (i := r.length) (by omega); rw [e1] at this; exact this) ?_
  repeat (first | refine VIf.tt ?_ | refine VIf.ff ?_)
  refine VArith.ok (by first | omega | (simp only; omega)) (by first | omega | (simp only; omega)) ?_
  repeat (first | refine VIf.tt ?_ | refine VIf.ff ?_)
  refine VIdxR.mk (r.length + 1) (by omega) (by omega) ?_
  repeat (first | refine VIf.tt ?_ | refine VIf.ff ?_)
  refine VCells.mk [.int .i64 b.1, .int .i64 b.2] rfl (by have := rowP_get (b :: a :: r).reverse (i := r.length + 1) (by omega); rw [e2] at this; exact this) ?_
  repeat (first | refine VIf.tt ?_ | refine VIf.ff ?_)
  refine VFn.p (turn_fn _ _ _ _ _ _ _ ha.1 ha.2 hb.1 hb.2 hx.1 hx.2) ?_
  repeat (first | refine VIf.tt ?_ | refine VIf.ff ?_)
  refine VIf.mk (fun hc => ?_) (fun hc => ?_)
  ·have hc : crossP a b x ≤ 0 := of_decide_eq_true hc
   refine VArith.ok (by first | omega | (simp only; omega)) (by first | omega | (simp only; omega)) ?_
   refine VBnd.mk (r.length + 1) (by omega) (by omega) ?_
   refine ⟨rfl, a :: r, ⟨?_, ?_, ?_⟩, ?_, ?_⟩
   ·rw [← hp1]; simp only [popR]; rw [if_pos hc]
   ·have : (a :: r).length = r.length + 1 := rfl
    omega
   ·exact fun p hp => hp3 p (List.mem_cons_of_mem _ hp)
   ·simp
   ·have e : List.take ((r.length + 1) * 2) (cellsP (b :: a :: r).reverse) = cellsP (a :: r).reverse := by
     rw [cellsP_take, List.reverse_cons, List.take_append_of_le_length (by simp), List.take_of_length_le (by simp)]
    exact Wk.mk' (fun i => if i = 3 then 10 else i) (by repeat' constructor) (by repeat' (first | exact e.symm | constructor)) (injOK_b rfl) rfl rfl rfl
  ·have hc : ¬ crossP a b x ≤ 0 := of_decide_eq_false hc
   have hend : popR (b :: a :: r) x = b :: a :: r := by simp only [popR]; rw [if_neg hc]
   have hlen' : (b :: a :: r).length ≤ 100000 := by omega
   generalize b :: a :: r = R at *
   refine VFact.mk (by simp only; omega) ?_
   refine VFact.mk (fun _ _ h => h) ?_
   refine VFact.mk (fun _ => rfl) ?_
   repeat refine VFact.mk rfl ?_
   have hpu : pushR C x = x :: R := by unfold pushR; rw [← hp1, hend]
   have el : (pushR C x).length = R.length + 1 := by rw [hpu]; rfl
   have ec : cellsP R.reverse ++ ([Value.int .i64 x.1, .int .i64 x.2] ++ []) = cellsP (pushR C x).reverse := by rw [hpu, List.reverse_cons]; simp [cellsP]
   refine ⟨.v (.tuple #[]), _, ?_, hK⟩
   refine ⟨⟨fun i => if i = 3 then 11 else i, rfl, rfl, ?_, ?_, ?_⟩, rfl, rfl, rfl⟩
   ·repeat' constructor
   ·repeat' (first | exact el | exact ec.symm | exact el.symm | exact ec | constructor)
   ·exact injOK_b rfl
 ·have hend : popR R x = R := popR_short x (by have := of_decide_eq_false h1; omega)
  have hlen' : R.length ≤ 100000 := by omega
  repeat (first | refine VIf.tt ?_ | refine VIf.ff ?_)
  refine VFact.mk (by simp only; omega) ?_
  refine VFact.mk (fun _ _ h => h) ?_
  refine VFact.mk (fun _ => rfl) ?_
  repeat refine VFact.mk rfl ?_
  have hpu : pushR C x = x :: R := by unfold pushR; rw [← hp1, hend]
  have el : (pushR C x).length = R.length + 1 := by rw [hpu]; rfl
  have ec : cellsP R.reverse ++ ([Value.int .i64 x.1, .int .i64 x.2] ++ []) = cellsP (pushR C x).reverse := by rw [hpu, List.reverse_cons]; simp [cellsP]
  refine ⟨.v (.tuple #[]), _, ?_, hK⟩
  refine ⟨⟨fun i => if i = 3 then 11 else i, rfl, rfl, ?_, ?_, ?_⟩, rfl, rfl, rfl⟩
  ·repeat' constructor
  ·repeat' (first | exact el | exact ec.symm | exact el.symm | exact ec | constructor)
  ·exact injOK_b rfl
end Go.Proofs.YtcdlplobniogpaaGreat
