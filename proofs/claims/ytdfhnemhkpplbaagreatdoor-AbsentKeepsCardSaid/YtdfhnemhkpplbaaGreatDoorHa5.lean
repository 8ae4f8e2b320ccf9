/- Contracts: places, comparisons. -/
import Derived.Test.YtdfhnemhkpplbaaGreatDoorHa4
import Derived.WalkKit
import Derived.Handy
import Derived.Lib.Hide
import Derived.WalkLawsBesides
import Derived.WalkSpells
import Derived.Deep.RegionHeld3
import Derived.Deep.Draws
import Derived.Sort.Grow
import Derived.Shelf.SlSortCmp.NoneTotal
set_option linter.unusedVariables false
set_option linter.unusedSimpArgs false
namespace Go.Proofs.YtdfhnemhkpplbaaGreatDoor
open Go Go.V Go.RowKit
theorem bool1 {a b : Bool} (h : a = true ↔ b = true) : [Value.bool a] = [.bool b] := by
 cases a <;> cases b <;> simp_all
theorem Place_fn (x y : Int) (M : Mem) : FnP Tryz.prog 16 [pt x y] M [.bool (isCb x && isCb y)] := by
 refine Fn.of_vc cxOK Tryz.func16 rfl rfl rfl ?_
 repeat' (first | refine VIf.tt ?_ | refine VIf.ff ?_ | refine VIf.mk (fun _ => ?_) (fun _ => ?_) | refine VFact.mk ?_ trivial)
 all_goals (refine ⟨bool1 ?_, rfl⟩; simp only [isCb, Bool.and_eq_true, decide_eq_true_eq, decide_eq_false_iff_not, Bool.false_eq_true, false_iff] at *; omega)
theorem isPlace_fn (x y : Int) (M : Mem) (hx : i64r x) (hy : i64r y) : FnP Tryz.prog 37 [pt x y] M [.bool (isCb x && isCb y)] := by
 unfold i64r at *
 have wmin : IntKind.wrap .i64 (- -9223372036854775808) = -9223372036854775808 := by decide
 refine Fn.of_vc cxOK Tryz.func37 rfl rfl rfl ?_
 have neg : ∀ (z : Int) (K : Int → Prop), -9223372036854775808 ≤ z → z ≤ 9223372036854775807 → (z ≠ -9223372036854775808 → K (-z)) → (z = -9223372036854775808 → K (-9223372036854775808)) → VArith (-9223372036854775808) 9223372036854775807 .i64 (-z) K := by
  intro z K h1 h2 h3 h4
  by_cases hz : z = -9223372036854775808
  ·repeat (first | refine VIf.tt ?_ | refine VIf.ff ?_)
   refine VArith.wr ?_
   rw [hz, wmin]; exact h4 hz
  ·repeat (first | refine VIf.tt ?_ | refine VIf.ff ?_)
   exact VArith.ok (by omega) (by omega) (h3 hz)
 repeat' (first | refine neg _ _ (by omega) (by omega) (fun _ => ?_) (fun _ => ?_) | refine VIf.tt ?_ | refine VIf.ff ?_ | refine VIf.mk (fun _ => ?_) (fun _ => ?_) | refine VFact.mk ?_ trivial)
 all_goals (refine ⟨bool1 ?_, rfl⟩; simp only [isCb, Bool.and_eq_true, decide_eq_true_eq, decide_eq_false_iff_not, Bool.false_eq_true, false_iff] at *; simp only [List.foldl] at *; omega)
theorem isNaN_fn (x : Int) (M : Mem) : FnP Tryz.prog 112 [.int .i64 x] M [.bool false] := by
 refine Fn.of_vc cxOK Tryz.func112 rfl rfl rfl ?_
 repeat (first | refine VIf.tt ?_ | refine VIf.ff ?_)
 refine VFact.mk ⟨?_, rfl⟩ trivial
 simp
theorem Compare_fn (x y : Int) (M : Mem) : FnP Tryz.prog 73 [.int .i64 x, .int .i64 y] M [.int .i64 (cmpI x y)] := by
 refine Fn.of_vc cxOK Tryz.func73 rfl rfl rfl ?_
 repeat' (first | refine VFn.p (isNaN_fn _ _) ?_ | refine VIf.tt ?_ | refine VIf.ff ?_ | refine VIf.mk (fun _ => ?_) (fun _ => ?_) | refine VFact.mk ?_ trivial)
 all_goals (refine ⟨?_, rfl⟩; simp_all [cmpI] <;> omega)
theorem Cross_fn (ax ay bx by' cx cy : Int) (M : Mem) (h1 : isC ax) (h2 : isC ay) (h3 : isC bx) (h4 : isC by') (h5 : isC cx) (h6 : isC cy) :
  FnP Tryz.prog 79 [pt ax ay, pt bx by', pt cx cy] M [.int .i64 (cross ax ay bx by' cx cy)] := by
 unfold isC at *
 have p1 := bd12 (a := bx - ax) (b := cy - ay) (by omega) (by omega) (by omega) (by omega)
 have p2 := bd12 (a := by' - ay) (b := cx - ax) (by omega) (by omega) (by omega) (by omega)
 refine Fn.of_vc cxOK Tryz.func79 rfl rfl rfl ?_
 repeat' (first | refine VArith.ok (by omega) (by omega) ?_)
 repeat (first | refine VIf.tt ?_ | refine VIf.ff ?_)
 exact VFact.mk ⟨rfl, rfl⟩ trivial
end Go.Proofs.YtdfhnemhkpplbaaGreatDoor
namespace Go.Proofs.YtdfhnemhkpplbaaGreatDoor
open Go Go.V Go.RowKit
def Ints (M : Mem) (v : Value) (xs : List Int) : Prop := SlAt M 1 v xs.length (xs.map (Value.int .i64))
theorem Or_fn (v : Value) (xs : List Int) (M : Mem) (hv : Ints M v xs) : FnP Tryz.prog 72 [v] M [.int .i64 (orL xs)] := by
 obtain ⟨ad, c, rfl, hc, hm, hl, h1, hcell⟩ := hv
 refine Fn.of_vc cxOK Tryz.func72 rfl rfl rfl ?_
 repeat (first | refine VIf.tt ?_ | refine VIf.ff ?_)
 refine VCode.loop cxOK Nat
  (fun i => ⟨[(3, .v (.int .i64 0)), (6, .v (.slice ad xs.length c)), (7, .v (.int .i64 xs.length)), (8, .v (.int .i64 i))], [], 0, M, 18, ⟨fun _ => none, none, fun _ => none⟩⟩)
  (fun i => i ≤ xs.length ∧ ∀ j, j < i → xs.getD j 0 = 0) (fun i => xs.length - i) 0 ⟨Nat.zero_le _, fun j hj => by omega⟩ ?_ ?_
 ·exact Wk.mk' id ⟨⟨rfl, rfl⟩, ⟨rfl, rfl⟩, ⟨rfl, rfl⟩, ⟨rfl, rfl⟩, trivial⟩ trivial trivial rfl rfl rfl
 rintro i ⟨hi, hz⟩ m
 repeat (first | refine VIf.tt ?_ | refine VIf.ff ?_)
 refine VIf.mk (fun hlt => ?_) (fun hge => ?_)
 ·have hlt : i < xs.length := by simpa using hlt
  obtain ⟨ad', rfl, hrd⟩ := hcell (by omega)
  repeat (first | refine VIf.tt ?_ | refine VIf.ff ?_)
  refine VIdx.mk ad' i rfl rfl hlt ?_
  repeat (first | refine VIf.tt ?_ | refine VIf.ff ?_)
  refine VRead.mk (.int .i64 (xs.getD i 0)) ?_ ?_
  ·have := hrd i (.int .i64 (xs.getD i 0)) (by simp [hlt])
   simpa using this
  repeat (first | refine VIf.tt ?_ | refine VIf.ff ?_)
  refine VIf.mk (fun hne => ?_) (fun heq => ?_)
  ·repeat (first | refine VIf.tt ?_ | refine VIf.ff ?_)
   refine VFact.mk ⟨?_, rfl⟩ trivial
   rw [← orL_drop xs i hz, List.drop_eq_getElem_cons hlt]
   have : xs.getD i 0 ≠ 0 := by simpa using hne
   have e : xs.getD i 0 = xs[i] := by simp [hlt]
   rw [e] at this ⊢
   simp [orL, this]
  ·repeat (first | refine VIf.tt ?_ | refine VIf.ff ?_)
   refine VArith.ok (by omega) (by unfold maxLen at hm; omega) ?_
   refine ⟨i + 1, ⟨hlt, fun j hj => ?_⟩, by omega, Wk.mk' id ⟨⟨rfl, rfl⟩, ⟨rfl, rfl⟩, ⟨rfl, rfl⟩, ⟨rfl, rfl⟩, trivial⟩ trivial trivial rfl rfl rfl⟩
   by_cases hji : j = i
   ·subst hji; simpa using heq
   ·exact hz j (by omega)
 ·have hge : i = xs.length := by
   have : ¬ ((i : Int) < (xs.length : Int)) := by simpa using hge
   omega
  subst hge
  repeat (first | refine VIf.tt ?_ | refine VIf.ff ?_)
  refine VFact.mk ⟨?_, rfl⟩ trivial
  rw [← orL_drop xs _ hz]
  simp [orL]
theorem sides_fn (ad : Option Addr) (n c : Nat) (M : Mem) : V.Fn Tryz.prog 39 [.slice ad n c] M fun rs M' => ∃ B, rs = [.func (.func 74) #[] #[.pointer (some ⟨B, 0, none⟩)]] ∧ M' B = some (.cells #[.slice ad n c] 27 (0, 0)) := by
 refine Fn.of_vc cxOK Tryz.func39 rfl rfl rfl ?_
 repeat (first | refine VIf.tt ?_ | refine VIf.ff ?_)
 refine VFzB.mk fun x B M' hle hB => ?_
 repeat (first | refine VIf.tt ?_ | refine VIf.ff ?_)
 exact VFact.mk ⟨B, rfl, hB⟩ trivial
theorem compare_fn (ax ay bx by' : Int) (M : Mem) : V.Fn Tryz.prog 38 [pt ax ay, pt bx by'] M fun rs _ => rs = [.int .i64 (cmpP ax ay bx by')] := by
 refine Fn.of_vc cxOK Tryz.func38 rfl rfl rfl ?_
 repeat (first | refine VIf.tt ?_ | refine VIf.ff ?_)
 refine VDraw.go (by kernel_rfl) ?_
 repeat (first | refine VIf.tt ?_ | refine VIf.ff ?_)
 refine VFn.p (Compare_fn _ _ _) ?_
 repeat (first | refine VIf.tt ?_ | refine VIf.ff ?_)
 refine VFn.p (Compare_fn _ _ _) ?_
 repeat (first | refine VIf.tt ?_ | refine VIf.ff ?_)
 refine VFz.mk fun x B M' hle hx => ?_
 repeat (first | refine VIf.tt ?_ | refine VIf.ff ?_)
 refine VFn.p (Or_fn x [cmpI ax bx, cmpI ay by'] _ hx) ?_
 repeat (first | refine VIf.tt ?_ | refine VIf.ff ?_)
 refine VFact.mk ?_ trivial
 simp [orL, cmpP]
 by_cases h : cmpI ax bx = 0 <;> by_cases h' : cmpI ay by' = 0 <;> simp [h, h']
end Go.Proofs.YtdfhnemhkpplbaaGreatDoor
namespace Go.Proofs.YtdfhnemhkpplbaaGreatDoor
open Go Go.V Go.RowKit
theorem Pts.read {M : Mem} {ad : Addr} {ps : List Pt} (hrd : ∀ (j : Nat) (v : Value), (cellsP ps)[j]? = some v → M.cell (ad.add j) = some v) {k : Nat} (hk : k < ps.length) :
  ∀ j v, [Value.int .i64 (gp ps k).1, .int .i64 (gp ps k).2][j]? = some v → M.cell ((ad.add (k * 2)).add j) = some v := by
 intro j v hj
 obtain ⟨g1, g2⟩ := cellsP_get ps k hk
 rw [show (ad.add (k * 2)).add j = ad.add (2 * k + j) by rw [Addr.add_add]; congr 1; omega]
 refine hrd _ _ ?_
 match j, hj with
 | 0, hj => rw [← hj]; exact g1
 | 1, hj => rw [← hj]; exact g2
 | j + 2, hj => simp at hj
theorem injOK_id : ∀ (l : List (Nat × Option OE)), injOK id l
 | [] => trivial
 | (i, _) :: l => ⟨fun j _ => by by_cases h : i = j; exact .inl h; exact .inr h, injOK_id l⟩
theorem Pts.cellsOf {M : Mem} {ad : Option Addr} {n c : Nat} {ps : List Pt} (h : Pts M (.slice ad n c) ps) : n = ps.length ∧ n ≤ maxLen ∧ ∀ M', M.le M' → ∀ k, k < ps.length → ∃ ad', ad = some ad' ∧ ∀ j v, [Value.int .i64 (gp ps k).1, .int .i64 (gp ps k).2][j]? = some v → M'.cell ((ad'.add (k * 2)).add j) = some v := by
 obtain ⟨ad, c, he, hc, hm, hl, h1, hcell⟩ := h
 cases he
 refine ⟨rfl, by omega, fun M' hM k hk => ?_⟩
 obtain ⟨ad', rfl, hrd⟩ := hcell (by omega)
 exact ⟨ad', rfl, fun j v hj => Mem.cell_le hM (Pts.read hrd hk j v hj)⟩
theorem Pts.shape {M : Mem} {v : Value} {ps : List Pt} (h : Pts M v ps) : ∃ ad c, v = .slice ad ps.length c := let ⟨ad, c, he, _⟩ := h; ⟨ad, c, he⟩
theorem sidesL_get {ps : List Pt} {k : Nat} {args : List Value} (h : (sidesL ps)[k]? = some args) : k < ps.length ∧ args = [ptv (gp ps k), ptv (gp ps ((k + 1) % ps.length))] := by
 simp only [sidesL, List.getElem?_map] at h
 cases hr : (List.range ps.length)[k]? with
 | none => rw [hr] at h; cases h
 | some i =>
  rw [hr] at h
  simp only [Option.map_some, Option.some.injEq] at h
  obtain ⟨h1, h2⟩ := List.getElem?_eq_some_iff.1 hr
  simp at h1 h2
  subst h2
  exact ⟨h1, h.symm⟩
theorem Valid_fn (v : Value) (ps : List Pt) (M : Mem) (hv : Pts M v ps) (hi64 : i64P ps) : V.Fn Tryz.prog 17 [v] M fun rs _ => rs = [.bool (validB ps)] := by
 obtain ⟨ad, c, rfl⟩ := hv.shape
 obtain ⟨_, hm, hrd⟩ := hv.cellsOf
 unfold maxLen at hm
 refine Fn.of_vc cxOK Tryz.func17 rfl rfl rfl ?_
 repeat (first | refine VIf.tt ?_ | refine VIf.ff ?_)
 refine VIf.mk (fun hlt => ?_) (fun hge0 => ?_)
 ·repeat (first | refine VIf.tt ?_ | refine VIf.ff ?_)
  repeat (first | refine VIf.tt ?_ | refine VIf.ff ?_)
  refine VFact.mk ?_ trivial
  have : ps.length = 0 := by simp at hlt; omega
  simp [validB, this]
 repeat (first | refine VIf.tt ?_ | refine VIf.ff ?_)
 repeat (first | refine VIf.tt ?_ | refine VIf.ff ?_)
 refine VIf.mk (fun hgt => ?_) (fun hle => ?_)
 ·repeat (first | refine VIf.tt ?_ | refine VIf.ff ?_)
  repeat (first | refine VIf.tt ?_ | refine VIf.ff ?_)
  refine VFact.mk ?_ trivial
  have : 64 < ps.length := by simp at hgt; omega
  simp [validB]; omega
 repeat (first | refine VIf.tt ?_ | refine VIf.ff ?_)
 repeat (first | refine VIf.tt ?_ | refine VIf.ff ?_)
 refine VCode.loop cxOK (Nat × Mem)
  (fun s => ⟨[(1, .box 0 0), (2, .box 1 0), (17, .v (.slice ad ps.length c)), (18, .v (.int .i64 ps.length)), (19, .v (.int .i64 s.1))], [(1, some (.box 4 [.v (.bool false)])), (0, some (.box 27 [.v (.slice ad ps.length c)]))], 2, s.2, 69, ⟨fun _ => none, none, fun _ => none⟩⟩)
  (fun s => M.le s.2 ∧ s.1 ≤ ps.length ∧ ∀ j, j < s.1 → v1B ps j = true) (fun s => ps.length - s.1) (0, M) ⟨Mem.le_refl _, Nat.zero_le _, fun j hj => by omega⟩ ?_ ?_
 ·exact Wk.mk' id ⟨⟨rfl, rfl⟩, ⟨rfl, rfl⟩, ⟨rfl, rfl⟩, ⟨rfl, rfl⟩, ⟨rfl, rfl⟩, trivial⟩ ⟨⟨rfl, rfl, ⟨rfl, rfl⟩, trivial⟩, ⟨rfl, rfl, ⟨rfl, rfl⟩, trivial⟩, trivial⟩ (injOK_id _) rfl rfl rfl
 rintro ⟨i, M1⟩ ⟨hM1, hi, hz⟩ m
 repeat (first | refine VIf.tt ?_ | refine VIf.ff ?_)
 refine VIf.mk (fun hlt => ?_) (fun hge => ?_)
 ·have hlt : i < ps.length := by simpa using hlt
  obtain ⟨ad', rfl, hpi⟩ := hrd M1 hM1 i hlt
  repeat (first | refine VIf.tt ?_ | refine VIf.ff ?_)
  refine VIdx.mk ad' i rfl rfl hlt ?_
  repeat (first | refine VIf.tt ?_ | refine VIf.ff ?_)
  refine VReads.mk [.int .i64 (gp ps i).1, .int .i64 (gp ps i).2] rfl hpi ?_
  repeat (first | refine VIf.tt ?_ | refine VIf.ff ?_)
  refine VDraw.go (by kernel_rfl) ?_
  repeat (first | refine VIf.tt ?_ | refine VIf.ff ?_)
  refine VFn.p (isPlace_fn _ _ _ (hi64 i hlt).1 (hi64 i hlt).2) ?_
  repeat (first | refine VIf.tt ?_ | refine VIf.ff ?_)
  refine VIf.mk (fun hnp => ?_) (fun hp => ?_)
  ·repeat (first | refine VIf.tt ?_ | refine VIf.ff ?_)
   repeat (first | refine VIf.tt ?_ | refine VIf.ff ?_)
   refine VFact.mk ?_ trivial
   have : v1B ps i = false := by simp [v1B, placeB] at hnp ⊢; intro a b; simp_all
   simp [validB, all_false hlt this]
  have hp : placeB (gp ps i) = true := by simpa [placeB] using hp
  repeat (first | refine VIf.tt ?_ | refine VIf.ff ?_)
  repeat (first | refine VIf.tt ?_ | refine VIf.ff ?_)
  refine VIf.mk (fun hi0 => ?_) (fun hi0 => ?_)
  ·have hi0 : 0 < i := by simp at hi0; omega
   repeat (first | refine VIf.tt ?_ | refine VIf.ff ?_)
   obtain ⟨ad2, he2, hp0⟩ := hrd M1 hM1 0 (by omega)
   cases he2
   repeat (first | refine VIf.tt ?_ | refine VIf.ff ?_)
   refine VIdx.mk ad' 0 rfl rfl (by omega) ?_
   repeat (first | refine VIf.tt ?_ | refine VIf.ff ?_)
   repeat (first | refine VIf.tt ?_ | refine VIf.ff ?_)
   refine VReads.mk [.int .i64 (gp ps 0).1, .int .i64 (gp ps 0).2] rfl hp0 ?_
   repeat (first | refine VIf.tt ?_ | refine VIf.ff ?_)
   repeat (first | refine VIf.tt ?_ | refine VIf.ff ?_)
   refine VFn.mk _ (compare_fn _ _ _ _ _) ?_
   rintro rs M' hM rfl
   repeat (first | refine VIf.tt ?_ | refine VIf.ff ?_)
   repeat (first | refine VIf.tt ?_ | refine VIf.ff ?_)
   refine VIf.mk (fun hc => ?_) (fun hc => ?_)
   ·repeat (first | refine VIf.tt ?_ | refine VIf.ff ?_)
    repeat (first | refine VIf.tt ?_ | refine VIf.ff ?_)
    refine VFact.mk ?_ trivial
    have hcc : ¬ cmpPt (gp ps 0) (gp ps i) < 0 := by simp [cmpPt] at hc ⊢; exact hc
    have : v1B ps i = false := by simp [v1B, hcc, Nat.ne_of_gt hi0]
    simp [validB, all_false hlt this]
   ·repeat (first | refine VIf.tt ?_ | refine VIf.ff ?_)
    repeat (first | refine VIf.tt ?_ | refine VIf.ff ?_)
    refine VArith.ok (by simp only; omega) (by simp only; omega) ?_
    refine ⟨(i + 1, M'), ⟨hM1.trans hM, hlt, fun j hj => ?_⟩, by simp only; omega, Wk.mk' id ⟨⟨rfl, rfl⟩, ⟨rfl, rfl⟩, ⟨rfl, rfl⟩, ⟨rfl, rfl⟩, ⟨rfl, rfl⟩, trivial⟩ ⟨⟨rfl, rfl, ⟨rfl, rfl⟩, trivial⟩, ⟨rfl, rfl, ⟨rfl, rfl⟩, trivial⟩, trivial⟩ (injOK_id _) rfl rfl rfl⟩
    by_cases hji : j = i
    ·subst hji
     have hcc : cmpPt (gp ps 0) (gp ps j) < 0 := by simp [cmpPt] at hc ⊢; exact hc
     simp [v1B, hp, hcc]
    ·exact hz j (by simp only at hj ⊢; omega)
  ·repeat (first | refine VIf.tt ?_ | refine VIf.ff ?_)
   repeat (first | refine VIf.tt ?_ | refine VIf.ff ?_)
   refine VArith.ok (by simp only; omega) (by simp only; omega) ?_
   refine ⟨(i + 1, M1), ⟨hM1, hlt, fun j hj => ?_⟩, by simp only; omega, Wk.mk' id ⟨⟨rfl, rfl⟩, ⟨rfl, rfl⟩, ⟨rfl, rfl⟩, ⟨rfl, rfl⟩, ⟨rfl, rfl⟩, trivial⟩ ⟨⟨rfl, rfl, ⟨rfl, rfl⟩, trivial⟩, ⟨rfl, rfl, ⟨rfl, rfl⟩, trivial⟩, trivial⟩ (injOK_id _) rfl rfl rfl⟩
   by_cases hji : j = i
   ·subst hji
    have : j = 0 := by simp at hi0; omega
    simp only [v1B, hp, Bool.true_and, Bool.or_eq_true, beq_iff_eq]
    exact .inl this
   ·exact hz j (by simp only at hj ⊢; omega)
 have hin : i = ps.length := by
  have : ¬ ((i : Int) < (ps.length : Int)) := by simpa using hge
  simp only at hi
  omega
 subst hin
 have hall : (List.range ps.length).all (v1B ps) = true := all_true hz
 have hC : ∀ k, k < ps.length → isC (gp ps k).1 ∧ isC (gp ps k).2 := fun k hk => by
  have := hz k hk
  simp only [v1B, placeB, Bool.and_eq_true] at this
  exact ⟨isCb_iff.1 this.1.1, isCb_iff.1 this.1.2⟩
 have hn1 : 1 ≤ ps.length := by simp at hge0; omega
 have hn64 : ps.length ≤ 64 := by simp at hle; omega
 repeat (first | refine VIf.tt ?_ | refine VIf.ff ?_)
 refine VIf.mk (fun h3 => ?_) (fun h3 => ?_)
 ·repeat (first | refine VIf.tt ?_ | refine VIf.ff ?_)
  repeat (first | refine VIf.tt ?_ | refine VIf.ff ?_)
  refine VFact.mk ?_ trivial
  have : ps.length < 3 := by simp at h3; omega
  simp [validB, hall, hn1, hn64, this]
 repeat (first | refine VIf.tt ?_ | refine VIf.ff ?_)
 have h3 : ¬ ps.length < 3 := by simp at h3; omega
 repeat (first | refine VIf.tt ?_ | refine VIf.ff ?_)
 refine VFn.mk _ (sides_fn _ _ _ _) ?_
 rintro rs M2 hM2 ⟨B, rfl, hB⟩
 have hM2 : M.le M2 := hM1.trans hM2
 repeat (first | refine VIf.tt ?_ | refine VIf.ff ?_)
 refine VCode.rangeB cxOK rfl (sides_iter M2 B _ ps hB (hv.le hM2)) (fun x hx => ?_) [(1, .box 0 0), (2, .box 1 0)] rfl (by kernel_rfl) (by kernel_rfl) Mem
  (fun k s => ⟨[(1, .box 0 0), (2, .box 1 0)], [(1, some (.box 4 [.v (.bool false)])), (0, some (.box 27 [.v (.slice ad ps.length c)]))], 2, s, 69, ⟨fun _ => none, none, fun _ => none⟩⟩)
  (fun k s => M2.le s ∧ ∀ j, j < k → v3B ps j = true) M2 ⟨Mem.le_refl _, fun j hj => by omega⟩ ?_ (fun k s => ⟨rfl, rfl⟩) ?_ ?_
 ·simp only [sidesL, List.mem_map] at hx
  obtain ⟨k, _, rfl⟩ := hx
  rfl
 ·exact Wk.mk' id ⟨⟨rfl, rfl⟩, ⟨rfl, rfl⟩, trivial⟩ ⟨⟨rfl, rfl, ⟨rfl, rfl⟩, trivial⟩, ⟨rfl, rfl, ⟨rfl, rfl⟩, trivial⟩, trivial⟩ (injOK_id _) rfl rfl rfl
 ·rintro k M3 args ⟨hM3, hz3⟩ hxs m f
  obtain ⟨hk, rfl⟩ := sidesL_get hxs
  have hM3' : M2.le M3 := hM3
  have hM3 : M.le M3 := hM2.trans hM3
  have hk' : (k + 1) % ps.length < ps.length := Nat.mod_lt _ (by omega)
  intro m'
  repeat (first | refine VIf.tt ?_ | refine VIf.ff ?_)
  refine VCode.loop cxOK (Nat × Mem)
   (fun s => ⟨[(1, .box 0 0), (2, .box 1 0), (5, .box 2 0), (6, .box 3 0), (47, .v (.slice ad ps.length c)), (48, .v (.int .i64 ps.length)), (49, .v (.int .i64 s.1))],
    [(3, some (.box 24 [.v (.int .i64 (gp ps ((k + 1) % ps.length)).1), .v (.int .i64 (gp ps ((k + 1) % ps.length)).2)])), (2, some (.box 24 [.v (.int .i64 (gp ps k).1), .v (.int .i64 (gp ps k).2)])), (1, some (.box 4 [.v (.bool false)])), (0, some (.box 27 [.v (.slice ad ps.length c)]))], 4, s.2, 69, ⟨fun _ => none, none, fun _ => none⟩⟩)
   (fun s => M3.le s.2 ∧ s.1 ≤ ps.length ∧ ∀ j, j < s.1 → v2B (gp ps k) (gp ps ((k + 1) % ps.length)) (gp ps j) = true) (fun s => ps.length - s.1) (0, M3) ⟨Mem.le_refl _, Nat.zero_le _, fun j hj => by omega⟩ ?_ ?_
  ·exact Wk.mk' id ⟨⟨rfl, rfl⟩, ⟨rfl, rfl⟩, ⟨rfl, rfl⟩, ⟨rfl, rfl⟩, ⟨rfl, rfl⟩, ⟨rfl, rfl⟩, ⟨rfl, rfl⟩, trivial⟩ ⟨⟨rfl, rfl, ⟨rfl, rfl⟩, ⟨rfl, rfl⟩, trivial⟩, ⟨rfl, rfl, ⟨rfl, rfl⟩, ⟨rfl, rfl⟩, trivial⟩, ⟨rfl, rfl, ⟨rfl, rfl⟩, trivial⟩, ⟨rfl, rfl, ⟨rfl, rfl⟩, trivial⟩, trivial⟩ (injOK_id _) rfl rfl rfl
  rintro ⟨i, M4⟩ ⟨hM4, hi4, hz4⟩ m4
  have hM4' : M3.le M4 := hM4
  have hM4 : M.le M4 := hM3.trans hM4
  have step : ∀ {f : Nat → Bool} (i : Nat), (∀ j, j < i → f j = true) → f i = true → ∀ j, j < i + 1 → f j = true := fun i h hi j hj => by
   by_cases e : j = i
   ·rw [e]; exact hi
   ·exact h j (by omega)
  repeat (first | refine VIf.tt ?_ | refine VIf.ff ?_)
  refine VIf.mk (fun hlt => ?_) (fun hge => ?_)
  ·have hlt : i < ps.length := by simpa using hlt
   obtain ⟨ad', rfl, hpi⟩ := hrd M4 hM4 i hlt
   repeat (first | refine VIf.tt ?_ | refine VIf.ff ?_)
   refine VIdx.mk ad' i rfl rfl hlt ?_
   repeat (first | refine VIf.tt ?_ | refine VIf.ff ?_)
   refine VReads.mk [.int .i64 (gp ps i).1, .int .i64 (gp ps i).2] rfl hpi ?_
   conv => whnf
   repeat (first | refine VIf.tt ?_ | refine VIf.ff ?_)
   refine VIf.mk (fun hxa => ?_) (fun hxa => ?_)
   ·repeat (first | refine VIf.tt ?_ | refine VIf.ff ?_)
    repeat (first | refine VIf.tt ?_ | refine VIf.ff ?_)
    refine VIf.mk (fun hxb => ?_) (fun hxb => ?_)
    ·repeat (first | refine VIf.tt ?_ | refine VIf.ff ?_)
     repeat (first | refine VIf.tt ?_ | refine VIf.ff ?_)
     refine VFn.p (turn_fn _ _ _ _ _ _ _ (hC k hk).1 (hC k hk).2 (hC _ hk').1 (hC _ hk').2 (hC i hlt).1 (hC i hlt).2) ?_
     repeat (first | refine VIf.tt ?_ | refine VIf.ff ?_)
     repeat (first | refine VIf.tt ?_ | refine VIf.ff ?_)
     refine VIf.mk (fun ht => ?_) (fun ht => ?_)
     ·repeat (first | refine VIf.tt ?_ | refine VIf.ff ?_)
      refine ⟨(⟨[(1, .box 0 0), (2, .box 1 0)], [(1, some (.box 4 [.v (.bool false)])), (0, some (.box 27 [.v (.slice (some ad') ps.length c)]))], 2, M4, 69, ⟨fun _ => none, none, fun _ => none⟩⟩ : St), (Wk.mk' id (by repeat' constructor) (by repeat' constructor) (injOK_id _) rfl rfl rfl), rfl, rfl, fun m => ?_⟩
      repeat (first | refine VIf.tt ?_ | refine VIf.ff ?_)
      refine VFact.mk ?_ trivial
      have h2 : v2B (gp ps k) (gp ps ((k + 1) % ps.length)) (gp ps i) = false := by
       have hx := of_decide_eq_true ht
       have hc : ¬ (0 < crossP (gp ps k) (gp ps ((k + 1) % ps.length)) (gp ps i)) := by unfold crossP; omega
       simp only [Bool.not_eq_true', Bool.and_eq_false_iff, beq_eq_false_iff_ne] at hxa hxb
       simp only [v2B, Bool.or_eq_false_iff, beq_eq_false_iff_ne, decide_eq_false_iff_not]
       exact ⟨⟨fun e => by rw [e] at hxa; simp at hxa, fun e => by rw [e] at hxb; simp at hxb⟩, hc⟩
      have h3' : (List.range ps.length).all (v3B ps) = false := all_false hk (all_false hlt h2)
      simp [validB, h3', h3]
     ·repeat (first | refine VIf.tt ?_ | refine VIf.ff ?_)
      repeat (first | refine VIf.tt ?_ | refine VIf.ff ?_)
      refine VArith.ok (by simp only; omega) (by simp only; omega) ?_
      refine ⟨(i + 1, M4), ⟨hM4', hlt, step i hz4 ?_⟩, by simp only; omega, (Wk.mk' id (by repeat' constructor) (by repeat' constructor) (injOK_id _) rfl rfl rfl)⟩
      have hx := of_decide_eq_false ht
      have hc : 0 < crossP (gp ps k) (gp ps ((k + 1) % ps.length)) (gp ps i) := by unfold crossP; omega
      simp [v2B, hc]
    ·repeat (first | refine VIf.tt ?_ | refine VIf.ff ?_)
     repeat (first | refine VIf.tt ?_ | refine VIf.ff ?_)
     refine VArith.ok (by simp only; omega) (by simp only; omega) ?_
     refine ⟨(i + 1, M4), ⟨hM4', hlt, step i hz4 ?_⟩, by simp only; omega, (Wk.mk' id (by repeat' constructor) (by repeat' constructor) (injOK_id _) rfl rfl rfl)⟩
     have e : gp ps i = gp ps ((k + 1) % ps.length) := by
      simp only [Bool.not_eq_false', Bool.and_eq_true, beq_iff_eq] at hxb
      exact Prod.ext hxb.1 hxb.2
     simp [v2B, e]
   ·repeat (first | refine VIf.tt ?_ | refine VIf.ff ?_)
    repeat (first | refine VIf.tt ?_ | refine VIf.ff ?_)
    refine VArith.ok (by simp only; omega) (by simp only; omega) ?_
    refine ⟨(i + 1, M4), ⟨hM4', hlt, step i hz4 ?_⟩, by simp only; omega, (Wk.mk' id (by repeat' constructor) (by repeat' constructor) (injOK_id _) rfl rfl rfl)⟩
    have e : gp ps i = gp ps k := by
     simp only [Bool.not_eq_false', Bool.and_eq_true, beq_iff_eq] at hxa
     exact Prod.ext hxa.1 hxa.2
    simp [v2B, e]
  ·have hin : i = ps.length := by
    have : ¬ ((i : Int) < (ps.length : Int)) := by simpa using hge
    simp only at hi4
    omega
   subst hin
   refine ⟨M4, ⟨hM3'.trans hM4', step k hz3 (all_true hz4)⟩, (Wk.mk' id (by repeat' constructor) (by repeat' constructor) (injOK_id _) rfl rfl rfl)⟩
 ·rintro M3 m ⟨hM3, hz3⟩
  repeat (first | refine VIf.tt ?_ | refine VIf.ff ?_)
  refine VFact.mk ?_ trivial
  have : (List.range ps.length).all (v3B ps) = true := all_true fun j hj => hz3 j (by simpa [sidesL] using hj)
  simp [validB, hall, hn1, hn64, this]
end Go.Proofs.YtdfhnemhkpplbaaGreatDoor
namespace Go.Proofs.YtdfhnemhkpplbaaGreatDoor
open Go Go.V Go.RowKit
def Arr {α : Type} (D : Mem → α → List Value → Prop) (M : Mem) (k : Nat) (v : Value) (l : List α) : Prop :=
 ∃ rows : List (List Value), rows.length = l.length ∧ (∀ r ∈ rows, r.length = k) ∧ SlAt M k v l.length rows.flatten ∧ ∀ (i : Nat) (x : α) (r : List Value), l[i]? = some x → rows[i]? = some r → D M x r
theorem Arr.le {α : Type} {D : Mem → α → List Value → Prop} (hD : ∀ M M' x r, M.le M' → D M x r → D M' x r) {M M' : Mem} {k : Nat} {v : Value} {l : List α} (h : Arr D M k v l) (hM : M.le M') : Arr D M' k v l :=
 let ⟨rows, h1, h2, h3, h4⟩ := h
 ⟨rows, h1, h2, h3.le hM, fun i x r hx hr => hD _ _ _ _ hM (h4 i x r hx hr)⟩
theorem flat_get {k : Nat} : ∀ (rows : List (List Value)) (i : Nat) (r : List Value), (∀ r ∈ rows, r.length = k) → rows[i]? = some r → ∀ j x, r[j]? = some x → rows.flatten[i * k + j]? = some x
 | [], i, r, _, h, _, _, _ => by simp at h
 | r0 :: rows, 0, r, hk, h, j, x, hx => by
  simp at h; subst h
  rw [List.flatten_cons, Nat.zero_mul, Nat.zero_add, List.getElem?_append_left (List.getElem?_eq_some_iff.1 hx).1]
  exact hx
 | r0 :: rows, i + 1, r, hk, h, j, x, hx => by
  have h0 := hk r0 (List.mem_cons_self)
  rw [List.flatten_cons, List.getElem?_append_right (by rw [h0, Nat.add_mul]; omega)]
  rw [show (i + 1) * k + j - r0.length = i * k + j by rw [h0, Nat.add_mul]; omega]
  exact flat_get rows i r (fun r hr => hk r (List.mem_cons_of_mem _ hr)) (by simpa using h) j x hx
theorem Arr.get {α : Type} {D : Mem → α → List Value → Prop} {M : Mem} {k : Nat} {v : Value} {l : List α} (h : Arr D M k v l) :
  ∃ ad c, v = .slice ad l.length c ∧ l.length ≤ 9223372036854775807 ∧ ∀ i x, l[i]? = some x → ∃ ad' r, ad = some ad' ∧ r.length = k ∧ D M x r ∧ ∀ M', M.le M' → ∀ j y, r[j]? = some y → M'.cell ((ad'.add (i * k)).add j) = some y := by
 obtain ⟨rows, h1, h2, ⟨ad, c, rfl, hc, hm, hl, ho, hcell⟩, h4⟩ := h
 refine ⟨ad, c, rfl, ?_, fun i x hx => ?_⟩
 ·unfold maxLen at hm; omega
 have hi := (List.getElem?_eq_some_iff.1 hx).1
 obtain ⟨ad', rfl, hrd⟩ := hcell (by omega)
 have hr : rows[i]? = some (rows[i]'(by omega)) := List.getElem?_eq_getElem (by omega)
 refine ⟨ad', _, rfl, h2 _ (List.getElem_mem _), h4 i x _ hx hr, fun M' hM j y hy => ?_⟩
 rw [Addr.add_add]
 exact Mem.cell_le hM (hrd _ _ (flat_get rows i _ h2 hr j y hy))
theorem add0 (a : Addr) : a.add 0 = a := by simp [Addr.add]
def IntD (_ : Mem) (n : Int) (r : List Value) : Prop := r = [.int .i64 n] ∧ i64r n
def PolyD (M : Mem) (ps : List Pt) (r : List Value) : Prop := ∃ v, r = [v] ∧ Pts M v ps ∧ i64P ps
def RegV (M : Mem) (v : Value) (l : List (List Pt)) : Prop := Arr PolyD M 1 v l
theorem RegV.le {M M' : Mem} {v : Value} {l : List (List Pt)} (h : RegV M v l) (hM : M.le M') : RegV M' v l :=
 Arr.le (fun _ _ _ _ hM ⟨v, h1, h2, h3⟩ => ⟨v, h1, SlAt.le hM h2, h3⟩) h hM
theorem getD_get {α : Type} {l : List α} {i : Nat} (d : α) (h : i < l.length) : l[i]? = some (l.getD i d) := by simp [h]
theorem RegV.get {M : Mem} {v : Value} {l : List (List Pt)} (h : RegV M v l) : ∃ ad c, v = .slice ad l.length c ∧ l.length ≤ 9223372036854775807 ∧ ∀ M', M.le M' → ∀ i, i < l.length → ∃ ad' w, ad = some ad' ∧ Pts M' w (l.getD i []) ∧ i64P (l.getD i []) ∧ M'.cell (ad'.add (i * 1)) = some w := by
 obtain ⟨ad, c, h1, h2, h3⟩ := Arr.get h
 refine ⟨ad, c, h1, h2, fun M' hM i hi => ?_⟩
 obtain ⟨ad', r, h4, _, ⟨w, rfl, h5, h5'⟩, h6⟩ := h3 i _ (getD_get [] hi)
 exact ⟨ad', w, h4, SlAt.le hM h5, h5', by have := h6 M' hM 0 _ rfl; rw [add0] at this; exact this⟩
theorem RegV.shape {M : Mem} {v : Value} {l : List (List Pt)} (h : RegV M v l) : ∃ ad c, v = .slice ad l.length c := let ⟨ad, c, he, _⟩ := h.get; ⟨ad, c, he⟩
end Go.Proofs.YtdfhnemhkpplbaaGreatDoor
namespace Go.Proofs.YtdfhnemhkpplbaaGreatDoor
open Go Go.V Go.RowKit
theorem stepI {f : Nat → Bool} {i : Nat} (h : ∀ j, j < i → f j = true) (hi : f i = true) : ∀ j, j < i + 1 → f j = true := fun j hj => by
 by_cases e : j = i
 ·rw [e]; exact hi
 ·exact h j (by omega)
theorem lt_of_dec {a b : Nat} (h : decide ((a : Int) < (b : Int)) = true) : a < b := by simpa using h
theorem ge_of_dec {a b : Nat} (h : decide ((a : Int) < (b : Int)) = false) : b ≤ a := by simpa using h
theorem eq_of_bne {a b : Nat} (h : ((a : Int) != (b : Int)) = false) : a = b := by have := (bne_eq_false_iff_eq).1 h; omega
theorem ne_of_bne {a b : Nat} (h : ((a : Int) != (b : Int)) = true) : a ≠ b := by have := bne_iff_ne.1 h; omega
theorem bn1 {b : Bool} (h : (!b) = true) : b = false := by simpa using h
theorem bn2 {b : Bool} (h : (!b) = false) : b = true := by simpa using h
theorem Less_fn (ax ay bx by' : Int) (M : Mem) : FnP Tryz.prog 90 [pt ax ay, pt bx by'] M [.bool (lessB (ax, ay) (bx, by'))] := by
 refine Fn.of_vc cxOK Tryz.func90 rfl rfl rfl ?_
 repeat' (first | refine VIf.tt ?_ | refine VIf.ff ?_ | refine VIf.mk (fun _ => ?_) (fun _ => ?_) | refine VFact.mk ?_ trivial)
 all_goals (refine ⟨bool1 ?_, rfl⟩; simp only [lessB, Bool.or_eq_true, Bool.and_eq_true, decide_eq_true_eq, decide_eq_false_iff_not, beq_iff_eq, beq_eq_false_iff_ne, Bool.false_eq_true, false_iff, true_iff, eq_self] at *; omega)
theorem between_fn (ax ay bx by' cx' cy : Int) (M : Mem) : FnP Tryz.prog 80 [pt ax ay, pt bx by', pt cx' cy] M [.bool (betwB (ax, ay) (bx, by') (cx', cy))] := by
 refine Fn.of_vc cxOK Tryz.func80 rfl rfl rfl ?_
 repeat' (first | refine VIf.tt ?_ | refine VIf.ff ?_ | refine VIf.mk (fun _ => ?_) (fun _ => ?_) | refine VFact.mk ?_ trivial)
 all_goals (refine ⟨bool1 ?_, rfl⟩; simp only [betwB, decide_eq_true_eq, decide_eq_false_iff_not, Bool.false_eq_true, false_iff] at *; simp only [List.foldl] at *; omega)
theorem places_fn (v : Value) (ps : List Pt) (M : Mem) (hv : Pts M v ps) : FnP Tryz.prog 89 [v] M [.bool ((List.range ps.length).all fun i => placeB (gp ps i))] := by
 obtain ⟨ad, c, rfl⟩ := hv.shape
 obtain ⟨_, hm, hrd⟩ := hv.cellsOf
 unfold maxLen at hm
 refine Fn.of_vc cxOK Tryz.func89 rfl rfl rfl ?_
 repeat (first | refine VIf.tt ?_ | refine VIf.ff ?_)
 refine VCode.loop cxOK Nat (fun i => ⟨[(0, .v (.slice ad ps.length c)), (3, .v (.int .i64 i))], [], 0, M, 16, ⟨fun _ => none, none, fun _ => none⟩⟩)
  (fun i => i ≤ ps.length ∧ ∀ j, j < i → placeB (gp ps j) = true) (fun i => ps.length - i) 0 ⟨Nat.zero_le _, fun j hj => by omega⟩ (Wk.mk' id (by repeat' constructor) (by repeat' constructor) (injOK_id _) rfl rfl rfl) ?_
 rintro i ⟨hi, hz⟩ m
 repeat (first | refine VIf.tt ?_ | refine VIf.ff ?_)
 refine VIf.mk (fun hlt => ?_) (fun hge => ?_)
 ·have hlt := lt_of_dec hlt
  obtain ⟨ad', rfl, hpi⟩ := hrd M (Mem.le_refl _) i hlt
  repeat (first | refine VIf.tt ?_ | refine VIf.ff ?_)
  refine VIdx.mk ad' i rfl rfl hlt ?_
  repeat (first | refine VIf.tt ?_ | refine VIf.ff ?_)
  refine VReads.mk [.int .i64 (gp ps i).1, .int .i64 (gp ps i).2] rfl hpi ?_
  repeat (first | refine VIf.tt ?_ | refine VIf.ff ?_)
  refine VFn.p (Place_fn _ _ _) ?_
  repeat (first | refine VIf.tt ?_ | refine VIf.ff ?_)
  refine VIf.mk (fun hp => ?_) (fun hp => ?_)
  ·repeat (first | refine VIf.tt ?_ | refine VIf.ff ?_)
   refine VFact.mk ⟨?_, rfl⟩ trivial
   rw [all_false hlt (bn1 hp)]
  ·repeat (first | refine VIf.tt ?_ | refine VIf.ff ?_)
   refine VArith.ok (by first | omega | (simp only; omega)) (by first | omega | (simp only; omega)) ?_
   exact ⟨i + 1, ⟨hlt, stepI hz (bn2 hp)⟩, (by first | omega | (simp only; omega)), (Wk.mk' id (by repeat' constructor) (by repeat' constructor) (injOK_id _) rfl rfl rfl)⟩
 ·have := ge_of_dec hge
  have e : i = ps.length := by omega
  subst e
  repeat (first | refine VIf.tt ?_ | refine VIf.ff ?_)
  refine VFact.mk ⟨?_, rfl⟩ trivial
  rw [all_true hz]
theorem ValidR_fn (v : Value) (ps : List Pt) (M : Mem) (hv : Pts M v ps) (_hi64 : i64P ps) : FnP Tryz.prog 55 [v] M [.bool (validR ps)] := by
 obtain ⟨ad, c, rfl⟩ := hv.shape
 obtain ⟨_, hm, hrd⟩ := hv.cellsOf
 unfold maxLen at hm
 refine Fn.of_vc cxOK Tryz.func55 rfl rfl rfl ?_
 have bad1 : ps.length < 1 → validR ps = false := fun h => by simp [validR]; omega
 have bad2 : 64 < ps.length → validR ps = false := fun h => by simp [validR]; omega
 repeat (first | refine VIf.tt ?_ | refine VIf.ff ?_)
 refine VIf.mk (fun h1 => ?_) (fun h1 => ?_)
 ·repeat (first | refine VIf.tt ?_ | refine VIf.ff ?_)
  repeat (first | refine VIf.tt ?_ | refine VIf.ff ?_)
  refine VFact.mk ⟨?_, rfl⟩ trivial
  rw [bad1 (by simp only [decide_eq_true_eq] at h1; omega)]
 repeat (first | refine VIf.tt ?_ | refine VIf.ff ?_)
 refine VIf.mk (fun h2 => ?_) (fun h2 => ?_)
 ·repeat (first | refine VIf.tt ?_ | refine VIf.ff ?_)
  repeat (first | refine VIf.tt ?_ | refine VIf.ff ?_)
  refine VFact.mk ⟨?_, rfl⟩ trivial
  rw [bad2 (by simp at h2; omega)]
 repeat (first | refine VIf.tt ?_ | refine VIf.ff ?_)
 refine VFn.p (places_fn _ ps _ hv) ?_
 repeat (first | refine VIf.tt ?_ | refine VIf.ff ?_)
 refine VIf.mk (fun h3 => ?_) (fun h3 => ?_)
 ·repeat (first | refine VIf.tt ?_ | refine VIf.ff ?_)
  repeat (first | refine VIf.tt ?_ | refine VIf.ff ?_)
  refine VFact.mk ⟨?_, rfl⟩ trivial
  have := bn1 h3
  simp [validR, this]
 repeat (first | refine VIf.tt ?_ | refine VIf.ff ?_)
 have hpl := all_iff.1 (bn2 h3)
 have hn1 : 1 ≤ ps.length := by simp only [decide_eq_false_iff_not] at h1; omega
 have hn64 : ps.length ≤ 64 := by simp only [decide_eq_false_iff_not] at h2; omega
 have hC : ∀ k, k < ps.length → isC (gp ps k).1 ∧ isC (gp ps k).2 := fun k hk => by
  have := hpl k hk
  simp only [placeB, Bool.and_eq_true] at this
  exact ⟨isCb_iff.1 this.1, isCb_iff.1 this.2⟩
 have rd : ∀ k, k < ps.length → _ := hrd M (Mem.le_refl _)
 obtain ⟨ad', rfl, hp0⟩ := rd 0 (by omega)
 repeat (first | refine VIf.tt ?_ | refine VIf.ff ?_)
 refine VCode.loop cxOK Nat (fun i => ⟨[(0, .v (.slice (some ad') ps.length c)), (3, .v (.int .i64 ps.length)), (4, .v (.int .i64 (i + 1 : Nat)))], [], 0, M, 78, ⟨fun _ => none, none, fun _ => none⟩⟩)
  (fun i => i + 1 ≤ ps.length ∧ ∀ j, j < i + 1 → (j == 0 || lessB (gp ps 0) (gp ps j)) = true) (fun i => ps.length - i) 0 ⟨hn1, fun j hj => by simp; omega⟩ (Wk.mk' id (by repeat' constructor) (by repeat' constructor) (injOK_id _) rfl rfl rfl) ?_
 rintro i ⟨hi, hz⟩ m
 repeat (first | refine VIf.tt ?_ | refine VIf.ff ?_)
 refine VIf.mk (fun hlt => ?_) (fun hge => ?_)
 ·have hlt := lt_of_dec hlt
  obtain ⟨_, he, hpi⟩ := rd (i + 1) hlt
  cases he
  repeat (first | refine VIf.tt ?_ | refine VIf.ff ?_)
  refine VDraw.go (by kernel_rfl) ?_
  repeat (first | refine VIf.tt ?_ | refine VIf.ff ?_)
  refine VIdx.mk ad' 0 rfl rfl (by omega) ?_
  repeat (first | refine VIf.tt ?_ | refine VIf.ff ?_)
  refine VReads.mk [.int .i64 (gp ps 0).1, .int .i64 (gp ps 0).2] rfl hp0 ?_
  repeat (first | refine VIf.tt ?_ | refine VIf.ff ?_)
  refine VIdx.mk ad' (i + 1) rfl rfl hlt ?_
  repeat (first | refine VIf.tt ?_ | refine VIf.ff ?_)
  refine VReads.mk [.int .i64 (gp ps (i + 1)).1, .int .i64 (gp ps (i + 1)).2] rfl hpi ?_
  repeat (first | refine VIf.tt ?_ | refine VIf.ff ?_)
  refine VFn.p (Less_fn _ _ _ _ _) ?_
  repeat (first | refine VIf.tt ?_ | refine VIf.ff ?_)
  refine VIf.mk (fun hp => ?_) (fun hp => ?_)
  ·repeat (first | refine VIf.tt ?_ | refine VIf.ff ?_)
   refine VFact.mk ⟨?_, rfl⟩ trivial
   have : (List.range ps.length).all (fun i => i == 0 || lessB (gp ps 0) (gp ps i)) = false := all_false hlt (by have := bn1 hp; simpa using this)
   simp [validR, this]
  ·repeat (first | refine VIf.tt ?_ | refine VIf.ff ?_)
   refine VArith.ok (by first | omega | (simp only; omega)) (by first | omega | (simp only; omega)) ?_
   exact ⟨i + 1, ⟨by omega, stepI hz (by have := bn2 hp; simpa using this)⟩, (by first | omega | (simp only; omega)), (Wk.mk' id (by repeat' constructor) (by repeat' constructor) (injOK_id _) rfl rfl rfl)⟩
 ·have := ge_of_dec hge
  have e : i + 1 = ps.length := by omega
  have hall : (List.range ps.length).all (fun i => i == 0 || lessB (gp ps 0) (gp ps i)) = true := all_true (by rw [← e]; exact hz)
  have hplB : (List.range ps.length).all (fun i => placeB (gp ps i)) = true := bn2 h3
  repeat (first | refine VIf.tt ?_ | refine VIf.ff ?_)
  refine VCode.loop cxOK Nat (fun i => ⟨[(0, .v (.slice (some ad') ps.length c)), (3, .v (.int .i64 ps.length)), (5, .v (.int .i64 i))], [], 0, M, 78, ⟨fun _ => none, none, fun _ => none⟩⟩)
   (fun i => i ≤ ps.length ∧ ∀ j, j < i → (List.range ps.length).all (r3B ps j) = true) (fun i => ps.length - i) 0 ⟨Nat.zero_le _, fun j hj => by omega⟩ (Wk.mk' id (by repeat' constructor) (by repeat' constructor) (injOK_id _) rfl rfl rfl) ?_
  rintro i ⟨hi, hz⟩ m
  repeat (first | refine VIf.tt ?_ | refine VIf.ff ?_)
  refine VIf.mk (fun hlt => ?_) (fun hge => ?_)
  ·have hlt := lt_of_dec hlt
   repeat (first | refine VIf.tt ?_ | refine VIf.ff ?_)
   refine VIf.mk (fun h3n => ?_) (fun h3n => ?_)
   ·repeat (first | refine VIf.tt ?_ | refine VIf.ff ?_)
    have h3n : ¬ ps.length < 3 := by simp only [decide_eq_true_eq] at h3n; omega
    obtain ⟨_, he, hpi⟩ := rd i hlt
    cases he
    have hs : (i + 1) % ps.length < ps.length := Nat.mod_lt _ (by omega)
    obtain ⟨_, he, hps⟩ := rd _ hs
    cases he
    repeat (first | refine VIf.tt ?_ | refine VIf.ff ?_)
    refine VCode.loop cxOK Nat (fun k => ⟨[(0, .v (.slice (some ad') ps.length c)), (3, .v (.int .i64 ps.length)), (5, .v (.int .i64 i)), (6, .v (.int .i64 k))], [], 0, M, 78, ⟨fun _ => none, none, fun _ => none⟩⟩)
     (fun k => k ≤ ps.length ∧ ∀ j, j < k → r3B ps i j = true) (fun k => ps.length - k) 0 ⟨Nat.zero_le _, fun j hj => by omega⟩ (Wk.mk' id (by repeat' constructor) (by repeat' constructor) (injOK_id _) rfl rfl rfl) ?_
    rintro k ⟨hk, hzk⟩ m
    repeat (first | refine VIf.tt ?_ | refine VIf.ff ?_)
    refine VIf.mk (fun hlk => ?_) (fun hgk => ?_)
    ·have hlk := lt_of_dec hlk
     obtain ⟨_, he, hpk⟩ := rd k hlk
     cases he
     repeat (first | refine VIf.tt ?_ | refine VIf.ff ?_)
     refine VDraw.go (by kernel_rfl) ?_
     repeat (first | refine VIf.tt ?_ | refine VIf.ff ?_)
     refine VIf.mk (fun hki => ?_) (fun hki => ?_)
     ·repeat (first | refine VIf.tt ?_ | refine VIf.ff ?_)
      repeat (first | refine VIf.tt ?_ | refine VIf.ff ?_)
      refine VArith.ok (by first | omega | (simp only; omega)) (by first | omega | (simp only; omega)) ?_
      repeat (first | refine VIf.tt ?_ | refine VIf.ff ?_)
      refine VDiv.mk (by omega) ?_
      repeat (first | refine VIf.tt ?_ | refine VIf.ff ?_)
      have es : ((i : Int) + 1).tmod (ps.length : Int) = (((i + 1) % ps.length : Nat) : Int) := by
       rw [Int.tmod_eq_emod_of_nonneg (by omega)]; simp
      repeat (first | refine VIf.tt ?_ | refine VIf.ff ?_)
      refine VIf.mk (fun hks => ?_) (fun hks => ?_)
      ·repeat (first | refine VIf.tt ?_ | refine VIf.ff ?_)
       repeat (first | refine VIf.tt ?_ | refine VIf.ff ?_)
       refine VIdx.mk ad' i rfl rfl hlt ?_
       repeat (first | refine VIf.tt ?_ | refine VIf.ff ?_)
       refine VReads.mk [.int .i64 (gp ps i).1, .int .i64 (gp ps i).2] rfl hpi ?_
       repeat (first | refine VIf.tt ?_ | refine VIf.ff ?_)
       repeat (first | refine VIf.tt ?_ | refine VIf.ff ?_)
       refine VArith.ok (by first | omega | (simp only; omega)) (by first | omega | (simp only; omega)) ?_
       repeat (first | refine VIf.tt ?_ | refine VIf.ff ?_)
       refine VDiv.mk (by omega) ?_
       repeat (first | refine VIf.tt ?_ | refine VIf.ff ?_)
       refine VIdx.mk ad' ((i + 1) % ps.length) rfl es hs ?_
       repeat (first | refine VIf.tt ?_ | refine VIf.ff ?_)
       refine VReads.mk [.int .i64 (gp ps ((i + 1) % ps.length)).1, .int .i64 (gp ps ((i + 1) % ps.length)).2] rfl hps ?_
       repeat (first | refine VIf.tt ?_ | refine VIf.ff ?_)
       refine VIdx.mk ad' k rfl rfl hlk ?_
       repeat (first | refine VIf.tt ?_ | refine VIf.ff ?_)
       refine VReads.mk [.int .i64 (gp ps k).1, .int .i64 (gp ps k).2] rfl hpk ?_
       repeat (first | refine VIf.tt ?_ | refine VIf.ff ?_)
       refine VFn.p (Cross_fn _ _ _ _ _ _ _ (hC i hlt).1 (hC i hlt).2 (hC _ hs).1 (hC _ hs).2 (hC k hlk).1 (hC k hlk).2) ?_
       repeat (first | refine VIf.tt ?_ | refine VIf.ff ?_)
       refine VIf.mk (fun hc => ?_) (fun hc => ?_)
       ·repeat (first | refine VIf.tt ?_ | refine VIf.ff ?_)
        repeat (first | refine VIf.tt ?_ | refine VIf.ff ?_)
        refine VFact.mk ⟨?_, rfl⟩ trivial
        have hc := of_decide_eq_true hc
        have h3 : r3B ps i k = false := by
         have e1 : k ≠ i := by simp at hki; omega
         have e2 : k ≠ (i + 1) % ps.length := by rw [es] at hks; exact ne_of_bne hks
         have hc : ¬ (0 < crossP (gp ps i) (gp ps ((i + 1) % ps.length)) (gp ps k)) := by unfold crossP; omega
         simp [r3B, e1, e2, hc]
        have h3' : ((List.range ps.length).all fun i => (List.range ps.length).all (r3B ps i)) = false := all_false hlt (all_false hlk h3)
        simp [validR, h3', h3n]
       ·repeat (first | refine VIf.tt ?_ | refine VIf.ff ?_)
        repeat (first | refine VIf.tt ?_ | refine VIf.ff ?_)
        refine VArith.ok (by first | omega | (simp only; omega)) (by first | omega | (simp only; omega)) ?_
        refine ⟨k + 1, ⟨hlk, stepI hzk ?_⟩, (by first | omega | (simp only; omega)), (Wk.mk' id (by repeat' constructor) (by repeat' constructor) (injOK_id _) rfl rfl rfl)⟩
        have hc := of_decide_eq_false hc
        have hc : 0 < crossP (gp ps i) (gp ps ((i + 1) % ps.length)) (gp ps k) := by unfold crossP; omega
        simp [r3B, hc]
      ·repeat (first | refine VIf.tt ?_ | refine VIf.ff ?_)
       repeat (first | refine VIf.tt ?_ | refine VIf.ff ?_)
       refine VArith.ok (by first | omega | (simp only; omega)) (by first | omega | (simp only; omega)) ?_
       refine ⟨k + 1, ⟨hlk, stepI hzk ?_⟩, (by first | omega | (simp only; omega)), (Wk.mk' id (by repeat' constructor) (by repeat' constructor) (injOK_id _) rfl rfl rfl)⟩
       rw [es] at hks
       have : k = (i + 1) % ps.length := eq_of_bne hks
       simp [r3B, this]
     ·repeat (first | refine VIf.tt ?_ | refine VIf.ff ?_)
      repeat (first | refine VIf.tt ?_ | refine VIf.ff ?_)
      refine VArith.ok (by first | omega | (simp only; omega)) (by first | omega | (simp only; omega)) ?_
      refine ⟨k + 1, ⟨hlk, stepI hzk ?_⟩, (by first | omega | (simp only; omega)), (Wk.mk' id (by repeat' constructor) (by repeat' constructor) (injOK_id _) rfl rfl rfl)⟩
      have : k = i := by simp at hki; omega
      simp [r3B, this]
    ·have : k = ps.length := by have := ge_of_dec hgk; omega
     subst this
     repeat (first | refine VIf.tt ?_ | refine VIf.ff ?_)
     refine VArith.ok (by first | omega | (simp only; omega)) (by first | omega | (simp only; omega)) ?_
     exact ⟨i + 1, ⟨hlt, stepI hz (all_true hzk)⟩, (by first | omega | (simp only; omega)), (Wk.mk' id (by repeat' constructor) (by repeat' constructor) (injOK_id _) rfl rfl rfl)⟩
   ·repeat (first | refine VIf.tt ?_ | refine VIf.ff ?_)
    repeat (first | refine VIf.tt ?_ | refine VIf.ff ?_)
    refine VFact.mk ⟨?_, rfl⟩ trivial
    have : ps.length < 3 := by simp only [decide_eq_false_iff_not] at h3n; omega
    simp [validR, hplB, hall, this, hn1, hn64]
  ·repeat (first | refine VIf.tt ?_ | refine VIf.ff ?_)
   have : i = ps.length := by have := ge_of_dec hge; omega
   subst this
   repeat (first | refine VIf.tt ?_ | refine VIf.ff ?_)
   refine VFact.mk ⟨?_, rfl⟩ trivial
   have := all_true hz
   simp [validR, hplB, hall, this, hn1, hn64]
end Go.Proofs.YtdfhnemhkpplbaaGreatDoor
namespace Go.Proofs.YtdfhnemhkpplbaaGreatDoor
open Go Go.V Go.RowKit
def allC (ps : List Pt) : Prop := ∀ k, k < ps.length → isC (gp ps k).1 ∧ isC (gp ps k).2
theorem allC_of {ps : List Pt} (h : validB ps = true) : allC ps := fun k hk => by
 simp only [validB, Bool.and_eq_true, all_iff, v1B, placeB] at h
 have := (h.1.2 k hk).1
 exact ⟨isCb_iff.1 this.1, isCb_iff.1 this.2⟩
theorem tmod_nat {i n : Nat} : ((i : Int) + 1).tmod (n : Int) = (((i + 1) % n : Nat) : Int) := by
 rw [Int.tmod_eq_emod_of_nonneg (by omega)]; simp
theorem Inside_fn (v : Value) (ps : List Pt) (x y : Int) (M : Mem) (hv : Pts M v ps) (hC : allC ps) (hx : isC x) (hy : isC y) : FnP Tryz.prog 46 [v, pt x y] M [.bool (hasB ps (x, y))] := by
 obtain ⟨ad, c, rfl⟩ := hv.shape
 obtain ⟨_, hm, hrd⟩ := hv.cellsOf
 unfold maxLen at hm
 refine Fn.of_vc cxOK Tryz.func46 rfl rfl rfl ?_
 have rd : ∀ k, k < ps.length → _ := hrd M (Mem.le_refl _)
 repeat (first | refine VIf.tt ?_ | refine VIf.ff ?_)
 refine VIf.mk (fun h1 => ?_) (fun h1 => ?_)
 ·have h1 : ps.length = 1 := by simp at h1; omega
  obtain ⟨ad', rfl, hp0⟩ := rd 0 (by omega)
  repeat (first | refine VIf.tt ?_ | refine VIf.ff ?_)
  refine VDraw.go (by kernel_rfl) ?_
  repeat (first | refine VIf.tt ?_ | refine VIf.ff ?_)
  refine VIdx.mk ad' 0 rfl rfl (by omega) ?_
  repeat (first | refine VIf.tt ?_ | refine VIf.ff ?_)
  refine VReads.mk [.int .i64 (gp ps 0).1, .int .i64 (gp ps 0).2] rfl hp0 ?_
  repeat (first | refine VIf.tt ?_ | refine VIf.ff ?_)
  refine VFact.mk ⟨?_, rfl⟩ trivial
  simp only [hasB, h1, if_true]
  rfl
 have h1 : ps.length ≠ 1 := by simp at h1; omega
 repeat (first | refine VIf.tt ?_ | refine VIf.ff ?_)
 refine VIf.mk (fun h2 => ?_) (fun h2 => ?_)
 ·have h2 : ps.length = 2 := by simp at h2; omega
  obtain ⟨ad', rfl, hp0⟩ := rd 0 (by omega)
  obtain ⟨_, he, hp1⟩ := rd 1 (by omega)
  cases he
  repeat (first | refine VIf.tt ?_ | refine VIf.ff ?_)
  refine VDraw.go (by kernel_rfl) ?_
  repeat (first | refine VIf.tt ?_ | refine VIf.ff ?_)
  refine VIdx.mk ad' 0 rfl rfl (by omega) ?_
  repeat (first | refine VIf.tt ?_ | refine VIf.ff ?_)
  refine VReads.mk [.int .i64 (gp ps 0).1, .int .i64 (gp ps 0).2] rfl hp0 ?_
  repeat (first | refine VIf.tt ?_ | refine VIf.ff ?_)
  refine VIdx.mk ad' 1 rfl rfl (by omega) ?_
  repeat (first | refine VIf.tt ?_ | refine VIf.ff ?_)
  refine VReads.mk [.int .i64 (gp ps 1).1, .int .i64 (gp ps 1).2] rfl hp1 ?_
  repeat (first | refine VIf.tt ?_ | refine VIf.ff ?_)
  refine VFn.p (Cross_fn _ _ _ _ _ _ _ (hC 0 (by omega)).1 (hC 0 (by omega)).2 (hC 1 (by omega)).1 (hC 1 (by omega)).2 hx hy) ?_
  repeat (first | refine VIf.tt ?_ | refine VIf.ff ?_)
  refine VIf.mk (fun hc => ?_) (fun hc => ?_)
  ·repeat (first | refine VIf.tt ?_ | refine VIf.ff ?_)
   refine VIdx.mk ad' 0 rfl rfl (by omega) ?_
   repeat (first | refine VIf.tt ?_ | refine VIf.ff ?_)
   refine VReads.mk [.int .i64 (gp ps 0).1, .int .i64 (gp ps 0).2] rfl hp0 ?_
   repeat (first | refine VIf.tt ?_ | refine VIf.ff ?_)
   refine VIdx.mk ad' 1 rfl rfl (by omega) ?_
   repeat (first | refine VIf.tt ?_ | refine VIf.ff ?_)
   refine VReads.mk [.int .i64 (gp ps 1).1, .int .i64 (gp ps 1).2] rfl hp1 ?_
   repeat (first | refine VIf.tt ?_ | refine VIf.ff ?_)
   refine VFn.p (between_fn _ _ _ _ _ _ _) ?_
   repeat (first | refine VIf.tt ?_ | refine VIf.ff ?_)
   refine VFact.mk ⟨?_, rfl⟩ trivial
   have hc : crossP (gp ps 0) (gp ps 1) (x, y) = 0 := by simpa [crossP] using hc
   simp [hasB, h2, hc]
  ·repeat (first | refine VIf.tt ?_ | refine VIf.ff ?_)
   refine VFact.mk ⟨?_, rfl⟩ trivial
   have hc : ¬ crossP (gp ps 0) (gp ps 1) (x, y) = 0 := by simpa [crossP] using hc
   simp [hasB, h2, hc]
 have h2 : ps.length ≠ 2 := by simp at h2; omega
 repeat (first | refine VIf.tt ?_ | refine VIf.ff ?_)
 refine VCode.loop cxOK Nat (fun i => ⟨[(0, .v (.slice ad ps.length c)), (3, .box 0 0), (5, .v (.int .i64 ps.length)), (6, .v (.int .i64 i))], [(0, some (.box 24 [.v (.int .i64 x), .v (.int .i64 y)]))], 1, M, 56, ⟨fun _ => none, none, fun _ => none⟩⟩)
  (fun i => i ≤ ps.length ∧ ∀ j, j < i → sideB ps (x, y) j = true) (fun i => ps.length - i) 0 ⟨Nat.zero_le _, fun j hj => by omega⟩ (Wk.mk' id (by repeat' constructor) (by repeat' constructor) (injOK_id _) rfl rfl rfl) ?_
 rintro i ⟨hi, hz⟩ m
 repeat (first | refine VIf.tt ?_ | refine VIf.ff ?_)
 refine VIf.mk (fun hlt => ?_) (fun hge => ?_)
 ·have hlt := lt_of_dec hlt
  have hs : (i + 1) % ps.length < ps.length := Nat.mod_lt _ (by omega)
  obtain ⟨ad', rfl, hpi⟩ := rd i hlt
  obtain ⟨_, he, hps⟩ := rd _ hs
  cases he
  repeat (first | refine VIf.tt ?_ | refine VIf.ff ?_)
  refine VDraw.go (by kernel_rfl) ?_
  repeat (first | refine VIf.tt ?_ | refine VIf.ff ?_)
  refine VIdx.mk ad' i rfl rfl hlt ?_
  repeat (first | refine VIf.tt ?_ | refine VIf.ff ?_)
  refine VReads.mk [.int .i64 (gp ps i).1, .int .i64 (gp ps i).2] rfl hpi ?_
  repeat (first | refine VIf.tt ?_ | refine VIf.ff ?_)
  refine VArith.ok (by first | omega | (simp only; omega)) (by first | omega | (simp only; omega)) ?_
  repeat (first | refine VIf.tt ?_ | refine VIf.ff ?_)
  refine VDiv.mk (by omega) ?_
  repeat (first | refine VIf.tt ?_ | refine VIf.ff ?_)
  refine VIdx.mk ad' _ rfl tmod_nat hs ?_
  repeat (first | refine VIf.tt ?_ | refine VIf.ff ?_)
  refine VReads.mk [.int .i64 (gp ps ((i + 1) % ps.length)).1, .int .i64 (gp ps ((i + 1) % ps.length)).2] rfl hps ?_
  repeat (first | refine VIf.tt ?_ | refine VIf.ff ?_)
  refine VFn.p (Cross_fn _ _ _ _ _ _ _ (hC i hlt).1 (hC i hlt).2 (hC _ hs).1 (hC _ hs).2 hx hy) ?_
  repeat (first | refine VIf.tt ?_ | refine VIf.ff ?_)
  refine VIf.mk (fun hc => ?_) (fun hc => ?_)
  ·repeat (first | refine VIf.tt ?_ | refine VIf.ff ?_)
   refine VFact.mk ⟨?_, rfl⟩ trivial
   have hc := of_decide_eq_true hc
   have : sideB ps (x, y) i = false := decide_eq_false (Int.not_le.2 hc)
   simp [hasB, h1, h2, all_false hlt this]
  ·repeat (first | refine VIf.tt ?_ | refine VIf.ff ?_)
   refine VArith.ok (by first | omega | (simp only; omega)) (by first | omega | (simp only; omega)) ?_
   have hc := of_decide_eq_false hc
   exact ⟨i + 1, ⟨hlt, stepI hz (decide_eq_true (Int.not_lt.1 hc))⟩, (by first | omega | (simp only; omega)), (Wk.mk' id (by repeat' constructor) (by repeat' constructor) (injOK_id _) rfl rfl rfl)⟩
 ·have : i = ps.length := by have := ge_of_dec hge; omega
  subst this
  repeat (first | refine VIf.tt ?_ | refine VIf.ff ?_)
  refine VFact.mk ⟨?_, rfl⟩ trivial
  simp only [hasB, h1, h2, if_false, all_true hz]
def loB (g : Pt → Int) (ps : List Pt) : Int := ps.foldl (fun a p => min a (g p)) (g (gp ps 0))
def hiB (g : Pt → Int) (ps : List Pt) : Int := ps.foldl (fun a p => max a (g p)) (g (gp ps 0))
theorem take_step {α β : Type} (f : β → α → β) (b : β) (l : List α) (d : α) {i : Nat} (h : i < l.length) : (l.take (i + 1)).foldl f b = f ((l.take i).foldl f b) (l.getD i d) := by
 rw [List.take_add_one, List.foldl_append]
 simp [h]
theorem ends_fn (v : Value) (ps : List Pt) (fid : Nat) (g : Pt → Int) (M : Mem) (hv : Pts M v ps) (hn : 1 ≤ ps.length) (hg : ∀ i, i < ps.length → ∀ M', FnP Tryz.prog fid [ptv (gp ps i)] M' [.int .i64 (g (gp ps i))]) : FnP Tryz.prog 75 [v, .func (.func fid) #[] #[]] M [.int .i64 (loB g ps), .int .i64 (hiB g ps)] := by
 obtain ⟨ad, c, rfl⟩ := hv.shape
 obtain ⟨_, hm, hrd⟩ := hv.cellsOf
 unfold maxLen at hm
 refine Fn.of_vc cxOK Tryz.func75 rfl rfl rfl ?_
 have rd : ∀ k, k < ps.length → _ := hrd M (Mem.le_refl _)
 obtain ⟨ad', rfl, hp0⟩ := rd 0 (by omega)
 repeat (first | refine VIf.tt ?_ | refine VIf.ff ?_)
 refine VDraw.go (by kernel_rfl) ?_
 repeat (first | refine VIf.tt ?_ | refine VIf.ff ?_)
 refine VIdx.mk ad' 0 rfl rfl (by omega) ?_
 repeat (first | refine VIf.tt ?_ | refine VIf.ff ?_)
 refine VReads.mk [.int .i64 (gp ps 0).1, .int .i64 (gp ps 0).2] rfl hp0 ?_
 repeat (first | refine VIf.tt ?_ | refine VIf.ff ?_)
 refine VIdx.mk ad' 0 rfl rfl (by omega) ?_
 repeat (first | refine VIf.tt ?_ | refine VIf.ff ?_)
 refine VReads.mk [.int .i64 (gp ps 0).1, .int .i64 (gp ps 0).2] rfl hp0 ?_
 repeat (first | refine VIf.tt ?_ | refine VIf.ff ?_)
 refine VFn.p (hg 0 (by omega) _) ?_
 repeat (first | refine VIf.tt ?_ | refine VIf.ff ?_)
 refine VFn.p (hg 0 (by omega) _) ?_
 repeat (first | refine VIf.tt ?_ | refine VIf.ff ?_)
 refine VCode.loop cxOK Nat (fun i => ⟨[(1, .v (.func (.func fid) #[] #[])), (6, .v (.int .i64 ((ps.take i).foldl (fun a p => min a (g p)) (g (gp ps 0))))), (7, .v (.int .i64 ((ps.take i).foldl (fun a p => max a (g p)) (g (gp ps 0))))), (20, .v (.slice (some ad') ps.length c)), (21, .v (.int .i64 ps.length)), (22, .v (.int .i64 i))], [], 0, M, 39, ⟨fun _ => none, none, fun _ => none⟩⟩)
  (fun i => i ≤ ps.length) (fun i => ps.length - i) 0 (Nat.zero_le _) (Wk.mk' id (by repeat' constructor) (by repeat' constructor) (injOK_id _) rfl rfl rfl) ?_
 rintro i hi m
 repeat (first | refine VIf.tt ?_ | refine VIf.ff ?_)
 refine VIf.mk (fun hlt => ?_) (fun hge => ?_)
 ·have hlt := lt_of_dec hlt
  obtain ⟨_, he, hpi⟩ := rd i hlt
  cases he
  repeat (first | refine VIf.tt ?_ | refine VIf.ff ?_)
  refine VIdx.mk ad' i rfl rfl hlt ?_
  repeat (first | refine VIf.tt ?_ | refine VIf.ff ?_)
  refine VReads.mk [.int .i64 (gp ps i).1, .int .i64 (gp ps i).2] rfl hpi ?_
  repeat (first | refine VIf.tt ?_ | refine VIf.ff ?_)
  refine VDraw.go (by kernel_rfl) ?_
  repeat (first | refine VIf.tt ?_ | refine VIf.ff ?_)
  refine VFn.p (hg i hlt _) ?_
  repeat (first | refine VIf.tt ?_ | refine VIf.ff ?_)
  refine VFn.p (hg i hlt _) ?_
  repeat (first | refine VIf.tt ?_ | refine VIf.ff ?_)
  refine VArith.ok (by first | omega | (simp only; omega)) (by first | omega | (simp only; omega)) ?_
  refine ⟨i + 1, hlt, (by first | omega | (simp only; omega)), ?_⟩
  dsimp only
  rw [take_step _ _ ps (0, 0) hlt, take_step _ _ ps (0, 0) hlt]
  exact (Wk.mk' id (by repeat' constructor) (by repeat' constructor) (injOK_id _) rfl rfl rfl)
 ·have : i = ps.length := by have := ge_of_dec hge; omega
  subst this
  repeat (first | refine VIf.tt ?_ | refine VIf.ff ?_)
  refine VFact.mk ⟨?_, rfl⟩ trivial
  rw [List.take_length]
  rfl
theorem Box1_fn (p : Pt) (M : Mem) : FnP Tryz.prog 76 [ptv p] M [.int .i64 p.1] := by
 refine Fn.of_vc cxOK Tryz.func76 rfl rfl rfl ?_
 repeat (first | refine VIf.tt ?_ | refine VIf.ff ?_)
 exact VFact.mk ⟨rfl, rfl⟩ trivial
theorem Box2_fn (p : Pt) (M : Mem) : FnP Tryz.prog 77 [ptv p] M [.int .i64 p.2] := by
 refine Fn.of_vc cxOK Tryz.func77 rfl rfl rfl ?_
 repeat (first | refine VIf.tt ?_ | refine VIf.ff ?_)
 exact VFact.mk ⟨rfl, rfl⟩ trivial
def boxLo (ps : List Pt) : Pt := (loB (·.1) ps, loB (·.2) ps)
def boxHi (ps : List Pt) : Pt := (hiB (·.1) ps, hiB (·.2) ps)
theorem Box_fn (v : Value) (ps : List Pt) (M : Mem) (hv : Pts M v ps) (hi64 : i64P ps) : V.Fn Tryz.prog 41 [v] M fun rs _ => rs = if validB ps = true then [ptv (boxLo ps), ptv (boxHi ps), .int .i64 0] else [pt 0 0, pt 0 0, .int .i64 1] := by
 refine Fn.of_vc cxOK Tryz.func41 rfl rfl rfl ?_
 repeat (first | refine VIf.tt ?_ | refine VIf.ff ?_)
 refine VFn.mk _ (Valid_fn v ps M hv hi64) ?_
 rintro rs M' hM rfl
 repeat (first | refine VIf.tt ?_ | refine VIf.ff ?_)
 refine VIf.mk (fun hV => ?_) (fun hV => ?_)
 ·repeat (first | refine VIf.tt ?_ | refine VIf.ff ?_)
  refine VDraw.go (by kernel_rfl) ?_
  have := bn1 hV
  repeat (first | refine VIf.tt ?_ | refine VIf.ff ?_)
  refine VFact.mk rfl ?_
  repeat (first | refine VIf.tt ?_ | refine VIf.ff ?_)
  refine VFact.mk ?_ trivial
  rw [this]; rfl
 ·have hV := bn2 hV
  have hn : 1 ≤ ps.length := by simp only [validB, Bool.and_eq_true, decide_eq_true_eq] at hV; omega
  repeat (first | refine VIf.tt ?_ | refine VIf.ff ?_)
  refine VFn.p (ends_fn v ps _ (·.1) _ (hv.le hM) hn (fun i _ M' => Box1_fn _ M')) ?_
  repeat (first | refine VIf.tt ?_ | refine VIf.ff ?_)
  refine VFn.p (ends_fn v ps _ (·.2) _ (hv.le hM) hn (fun i _ M' => Box2_fn _ M')) ?_
  repeat (first | refine VIf.tt ?_ | refine VIf.ff ?_)
  refine VDraw.go (by kernel_rfl) ?_
  repeat (first | refine VIf.tt ?_ | refine VIf.ff ?_)
  refine VFact.mk rfl ?_
  repeat (first | refine VIf.tt ?_ | refine VIf.ff ?_)
  refine VFact.mk ?_ trivial
  rw [hV]; rfl
end Go.Proofs.YtdfhnemhkpplbaaGreatDoor
namespace Go.Proofs.YtdfhnemhkpplbaaGreatDoor
open Go Go.V Go.RowKit
theorem has_small (ps : List Pt) (hn : ps.length = 1 ∨ ps.length = 2) (x : Pt) :
  hasB ps x = (decide (crossP (gp ps 0) (gp ps (ps.length - 1)) x = 0) && decide ((boxLo ps).1 ≤ x.1) && decide (x.1 ≤ (boxHi ps).1) && decide ((boxLo ps).2 ≤ x.2) && decide (x.2 ≤ (boxHi ps).2)) := by
 match ps, hn with
 | [p], _ =>
  rw [Bool.eq_iff_iff]
  simp only [hasB, List.length_cons, List.length_nil, boxLo, boxHi, loB, hiB, gp, List.getD_cons_zero, List.foldl_cons, List.foldl_nil, Bool.and_eq_true, decide_eq_true_eq, if_true, beq_iff_eq]
  constructor
  ·rintro rfl; simp [crossP_self]
  ·rintro ⟨⟨⟨h1, h2⟩, h3⟩, h4⟩
   exact Prod.ext (by omega) (by omega)
 | [p, q], _ =>
  rw [Bool.eq_iff_iff]
  simp only [hasB, betwB, List.length_cons, List.length_nil, boxLo, boxHi, loB, hiB, gp, List.getD_cons_zero, List.getD_cons_succ, List.foldl_cons, List.foldl_nil, Bool.and_eq_true, decide_eq_true_eq, Nat.reduceAdd, Nat.reduceSub, Nat.reduceEqDiff, if_true, if_false]
  omega
 | [], h => simp at h
 | _ :: _ :: _ :: _, h => simp at h
set_option maxRecDepth 20000 in
theorem Has_fn (v : Value) (ps : List Pt) (x y : Int) (M : Mem) (hv : Pts M v ps) (hi64 : i64P ps) (hx : i64r x) (hy : i64r y) : V.Fn Tryz.prog 18 [v, pt x y] M fun rs _ => rs = if (validB ps && placeB (x, y)) = true then [.bool (hasB ps (x, y)), .int .i64 0] else [.bool false, .int .i64 1] := by
 obtain ⟨ad, c, rfl⟩ := hv.shape
 obtain ⟨_, hm, hrd⟩ := hv.cellsOf
 unfold maxLen at hm
 refine Fn.of_vc cxOK Tryz.func18 rfl rfl rfl ?_
 repeat (first | refine VIf.tt ?_ | refine VIf.ff ?_)
 refine VFn.mk _ (Valid_fn _ ps M hv hi64) ?_
 rintro rs M1 hM1 rfl
 repeat (first | refine VIf.tt ?_ | refine VIf.ff ?_)
 refine VIf.mk (fun hV => ?_) (fun hV => ?_)
 ·repeat (first | refine VIf.tt ?_ | refine VIf.ff ?_)
  refine VFact.mk ?_ trivial
  rw [bn1 hV]; rfl
 have hV := bn2 hV
 have hC := allC_of hV
 have hn1 : 1 ≤ ps.length := by simp only [validB, Bool.and_eq_true, decide_eq_true_eq] at hV; omega
 repeat (first | refine VIf.tt ?_ | refine VIf.ff ?_)
 refine VFn.p (isPlace_fn _ _ _ hx hy) ?_
 repeat (first | refine VIf.tt ?_ | refine VIf.ff ?_)
 refine VIf.mk (fun hP => ?_) (fun hP => ?_)
 ·repeat (first | refine VIf.tt ?_ | refine VIf.ff ?_)
  refine VFact.mk ?_ trivial
  rw [show placeB (x, y) = false from bn1 hP, Bool.and_false]; rfl
 have hP : placeB (x, y) = true := bn2 hP
 have hxy : isC x ∧ isC y := by
  simp only [placeB, Bool.and_eq_true] at hP
  exact ⟨isCb_iff.1 hP.1, isCb_iff.1 hP.2⟩
 rw [hV, hP]
 repeat (first | refine VIf.tt ?_ | refine VIf.ff ?_)
 refine VIf.mk (fun h3 => ?_) (fun h3 => ?_)
 ·have h3 : ps.length = 1 ∨ ps.length = 2 := by simp only [decide_eq_true_eq] at h3; omega
  repeat (first | refine VIf.tt ?_ | refine VIf.ff ?_)
  refine VFn.mk _ (Box_fn _ ps M1 (hv.le hM1) hi64) ?_
  rintro rs M2 hM2 rfl
  rw [hV]
  have hs := has_small ps h3 (x, y)
  obtain ⟨lx, ly, hlo⟩ : ∃ lx ly, boxLo ps = (lx, ly) := ⟨_, _, rfl⟩
  obtain ⟨hx', hy', hhi⟩ : ∃ hx hy, boxHi ps = (hx, hy) := ⟨_, _, rfl⟩
  rw [hlo, hhi] at hs
  rw [hlo, hhi, hs]
  obtain ⟨ad', rfl, hp0⟩ := hrd M2 (hM1.trans hM2) 0 (by omega)
  obtain ⟨_, he, hp1⟩ := hrd M2 (hM1.trans hM2) (ps.length - 1) (by omega)
  cases he
  repeat (first | refine VIf.tt ?_ | refine VIf.ff ?_)
  refine VDraw.go (by kernel_rfl) ?_
  repeat (first | refine VIf.tt ?_ | refine VIf.ff ?_)
  refine VIdx.mk ad' 0 rfl rfl (by omega) ?_
  repeat (first | refine VIf.tt ?_ | refine VIf.ff ?_)
  refine VReads.mk [.int .i64 (gp ps 0).1, .int .i64 (gp ps 0).2] rfl hp0 ?_
  repeat (first | refine VIf.tt ?_ | refine VIf.ff ?_)
  refine VArith.ok (by first | omega | (simp only; omega)) (by first | omega | (simp only; omega)) ?_
  repeat (first | refine VIf.tt ?_ | refine VIf.ff ?_)
  refine VIdx.mk ad' (ps.length - 1) rfl (by omega) (by omega) ?_
  repeat (first | refine VIf.tt ?_ | refine VIf.ff ?_)
  refine VReads.mk [.int .i64 (gp ps (ps.length - 1)).1, .int .i64 (gp ps (ps.length - 1)).2] rfl hp1 ?_
  have htf := turn_fn _ _ _ _ _ _ M2 (hC 0 (by omega)).1 (hC 0 (by omega)).2 (hC (ps.length - 1) (by omega)).1 (hC (ps.length - 1) (by omega)).2 hxy.1 hxy.2
  have hcr : crossP (gp ps 0) (gp ps (ps.length - 1)) (x, y) = cross (gp ps 0).1 (gp ps 0).2 (gp ps (ps.length - 1)).1 (gp ps (ps.length - 1)).2 x y := rfl
  generalize cross (gp ps 0).1 (gp ps 0).2 (gp ps (ps.length - 1)).1 (gp ps (ps.length - 1)).2 x y = cr at htf hcr
  repeat (first | refine VIf.tt ?_ | refine VIf.ff ?_)
  refine VFn.p htf ?_
  repeat' (first | refine VIf.tt ?_ | refine VIf.ff ?_ | refine VIf.mk (fun _ => ?_) (fun _ => ?_))
  all_goals (refine VFact.mk ?_ trivial)
  all_goals (show _ = _; rw [hcr]; refine congrArg (fun b => [Value.bool b, Value.int .i64 0]) ?_)
  all_goals simp_all
  all_goals omega
 ·have h3 : ¬ ps.length < 3 := by simp only [decide_eq_false_iff_not] at h3; omega
  repeat (first | refine VIf.tt ?_ | refine VIf.ff ?_)
  refine VFn.mk _ (sides_fn _ _ _ _) ?_
  rintro rs M2 hM2 ⟨B, rfl, hB⟩
  have hM2' : M.le M2 := hM1.trans hM2
  repeat (first | refine VIf.tt ?_ | refine VIf.ff ?_)
  refine VCode.rangeB cxOK rfl (sides_iter M2 B _ ps hB (hv.le hM2')) (fun x hx => ?_) [(3, .box 0 0), (4, .box 1 0), (5, .box 2 0)] rfl (by kernel_rfl) (by kernel_rfl) Unit
   (fun k s => ⟨[(3, .box 0 0), (4, .box 1 0), (5, .box 2 0)], [(2, some (.box 28 [.v (.int .i64 0)])), (1, some (.box 4 [.v (.bool false)])), (0, some (.box 24 [.v (.int .i64 x), .v (.int .i64 y)]))], 3, M2, 77, ⟨fun _ => none, none, fun _ => none⟩⟩)
   (fun k s => ∀ j, j < k → sideB ps (x, y) j = true) () (fun j hj => by omega) ?_ (fun k s => ⟨rfl, rfl⟩) ?_ ?_
  ·simp only [sidesL, List.mem_map] at hx
   obtain ⟨k, _, rfl⟩ := hx
   rfl
  ·exact (Wk.mk' id (by repeat' constructor) (by repeat' constructor) (injOK_id _) rfl rfl rfl)
  ·rintro k s args hz hxs m f
   obtain ⟨hk, rfl⟩ := sidesL_get hxs
   have hk' : (k + 1) % ps.length < ps.length := Nat.mod_lt _ (by omega)
   intro m'
   repeat (first | refine VIf.tt ?_ | refine VIf.ff ?_)
   refine VFn.p (turn_fn _ _ _ _ _ _ _ (hC k hk).1 (hC k hk).2 (hC _ hk').1 (hC _ hk').2 hxy.1 hxy.2) ?_
   repeat (first | refine VIf.tt ?_ | refine VIf.ff ?_)
   refine VIf.mk (fun ht => ?_) (fun ht => ?_)
   ·refine ⟨(⟨[(3, .box 0 0), (4, .box 1 0), (5, .box 2 0)], [(2, some (.box 28 [.v (.int .i64 0)])), (1, some (.box 4 [.v (.bool false)])), (0, some (.box 24 [.v (.int .i64 x), .v (.int .i64 y)]))], 3, M2, 77, ⟨fun _ => none, none, fun _ => none⟩⟩ : St), (Wk.mk' id (by repeat' constructor) (by repeat' constructor) (injOK_id _) rfl rfl rfl), rfl, rfl, fun m => ?_⟩
    repeat (first | refine VIf.tt ?_ | refine VIf.ff ?_)
    refine VFact.mk ?_ trivial
    have ht := of_decide_eq_true ht
    have : sideB ps (x, y) k = false := decide_eq_false (Int.not_le.2 ht)
    simp [hasB, show ps.length ≠ 1 by omega, show ps.length ≠ 2 by omega, all_false hk this]
   ·have ht := of_decide_eq_false ht
    exact ⟨(), stepI hz (decide_eq_true (Int.not_lt.1 ht)), (Wk.mk' id (by repeat' constructor) (by repeat' constructor) (injOK_id _) rfl rfl rfl)⟩
  ·rintro s m hz
   repeat (first | refine VIf.tt ?_ | refine VIf.ff ?_)
   refine VFact.mk ?_ trivial
   have : (List.range ps.length).all (sideB ps (x, y)) = true := all_true fun j hj => hz j (by simpa [sidesL] using hj)
   simp [hasB, show ps.length ≠ 1 by omega, show ps.length ≠ 2 by omega, this]
end Go.Proofs.YtdfhnemhkpplbaaGreatDoor
namespace Go.Proofs.YtdfhnemhkpplbaaGreatDoor
open Go Go.V Go.RowKit
end Go.Proofs.YtdfhnemhkpplbaaGreatDoor
namespace Go.Proofs.YtdfhnemhkpplbaaGreatDoor
open Go Go.V Go.RowKit
def small (l : List Int) : Prop := ∀ i, i < l.length → -1000000 ≤ gi l i ∧ gi l i ≤ 1000000
theorem cellAt {M : Mem} {B : Nat} {cs : Array Value} {t : TypeId} (h : M B = some (.cells cs t (0, 0))) (j : Nat) {v : Value} (hv : cs[j]? = some v) : M.cell ((⟨B, 0, none⟩ : Addr).add j) = some v := by
 unfold Mem.cell Addr.add
 by_cases e : j = 0
 ·subst e; simp only [if_true, h]; exact hv
 ·simp only [e, if_false, h, Nat.zero_add]; exact hv
end Go.Proofs.YtdfhnemhkpplbaaGreatDoor
namespace Go.Proofs.YtdfhnemhkpplbaaGreatDoor
open Go Go.V Go.RowKit
def gr (r : List (List Pt)) (i : Nat) : List Pt := r.getD i []
theorem any_getD {α : Type} (d : α) (g : α → Bool) (l : List α) {i : Nat} (hi : i < l.length) (h : g (l.getD i d) = true) : l.any g = true := by
 rw [List.any_eq_true]
 exact ⟨_, List.getElem_mem hi, by simpa [hi] using h⟩
theorem any_none {α : Type} (d : α) (g : α → Bool) (l : List α) (h : ∀ i, i < l.length → g (l.getD i d) = false) : l.any g = false := by
 rw [List.any_eq_false]
 intro x hx
 obtain ⟨i, hi, rfl⟩ := List.getElem_of_mem hx
 have := h i hi
 simp [hi] at this
 simp [this]
theorem all_getD {α : Type} (d : α) (g : α → Bool) (l : List α) (h : ∀ i, i < l.length → g (l.getD i d) = true) : l.all g = true := by
 rw [List.all_eq_true]
 intro x hx
 obtain ⟨i, hi, rfl⟩ := List.getElem_of_mem hx
 have := h i hi
 simpa [hi] using this
theorem all_getD' {α : Type} (d : α) (g : α → Bool) (l : List α) {i : Nat} (hi : i < l.length) (h : g (l.getD i d) = false) : l.all g = false := by
 cases hb : l.all g with
 | false => rfl
 | true =>
  have := List.all_eq_true.1 hb _ (List.getElem_mem hi)
  simp [hi] at h
  rw [h] at this; cases this
theorem all_at {α : Type} (d : α) {g : α → Bool} {l : List α} (h : l.all g = true) {i : Nat} (hi : i < l.length) : g (l.getD i d) = true := by
 have := List.all_eq_true.1 h _ (List.getElem_mem hi)
 simpa [hi] using this
theorem IndexR0_fn (v : Value) (r : List (List Pt)) (fid : Nat) (g : List Pt → Bool) (M : Mem) (hv : RegV M v r) (hg : ∀ i, i < r.length → ∀ M', M.le M' → ∀ w, Pts M' w (gr r i) → i64P (gr r i) → V.Fn Tryz.prog fid [w] M' fun rs _ => rs = [.bool (g (gr r i))]) :
  V.Fn Tryz.prog 78 [v, .func (.func fid) #[] #[]] M fun rs _ => ∃ k : Int, rs = [.int .i64 k] ∧ (0 ≤ k ↔ r.any g = true) := by
 obtain ⟨ad, c, rfl, hm, hrd⟩ := hv.get
 refine Fn.of_vc cxOK Tryz.func78 rfl rfl rfl ?_
 repeat (first | refine VIf.tt ?_ | refine VIf.ff ?_)
 refine VCode.loop cxOK (Nat × Mem) (fun s => ⟨[(0, .v (.slice ad r.length c)), (1, .v (.func (.func fid) #[] #[])), (7, .v (.int .i64 r.length)), (8, .v (.int .i64 s.1))], [], 0, s.2, 19, ⟨fun _ => none, none, fun _ => none⟩⟩)
  (fun s => M.le s.2 ∧ s.1 ≤ r.length ∧ ∀ j, j < s.1 → g (gr r j) = false) (fun s => r.length - s.1) (0, M) ⟨Mem.le_refl _, Nat.zero_le _, fun j hj => by simp at hj⟩ (Wk.mk' id (by repeat' constructor) (by repeat' constructor) (injOK_id _) rfl rfl rfl) ?_
 rintro ⟨i, M1⟩ ⟨hM1, hi, hz⟩ m
 have hM1 : M.le M1 := hM1
 repeat (first | refine VIf.tt ?_ | refine VIf.ff ?_)
 refine VIf.mk (fun hlt => ?_) (fun hge => ?_)
 ·have hlt : i < r.length := lt_of_dec hlt
  obtain ⟨ad', w, rfl, hp, hp64, hc1⟩ := hrd M1 hM1 i hlt
  repeat (first | refine VIf.tt ?_ | refine VIf.ff ?_)
  refine VIdx.mk ad' i rfl rfl hlt ?_
  repeat (first | refine VIf.tt ?_ | refine VIf.ff ?_)
  refine VRead.mk _ hc1 ?_
  repeat (first | refine VIf.tt ?_ | refine VIf.ff ?_)
  refine VFn.mk _ (hg i hlt M1 hM1 w hp hp64) ?_
  rintro rs M2 hM2 rfl
  repeat (first | refine VIf.tt ?_ | refine VIf.ff ?_)
  refine VIf.mk (fun hc => ?_) (fun hc => ?_)
  ·repeat (first | refine VIf.tt ?_ | refine VIf.ff ?_)
   refine VFact.mk ⟨i, rfl, ?_⟩ trivial
   have := any_getD [] g r hlt hc
   simp [this]
  ·repeat (first | refine VIf.tt ?_ | refine VIf.ff ?_)
   refine VArith.ok (by first | omega | (simp only; omega)) (by first | omega | (simp only; omega)) ?_
   refine ⟨(i + 1, M2), ⟨hM1.trans hM2, hlt, fun j hj => ?_⟩, (by first | omega | (simp only; omega)), (Wk.mk' id (by repeat' constructor) (by repeat' constructor) (injOK_id _) rfl rfl rfl)⟩
   by_cases e : j = i
   ·subst e; exact hc
   ·exact hz j (by simp only at hj ⊢; omega)
 ·have : i = r.length := by have := ge_of_dec hge; have hi : i ≤ r.length := hi; omega
  subst this
  repeat (first | refine VIf.tt ?_ | refine VIf.ff ?_)
  refine VFact.mk ⟨-1, rfl, ?_⟩ trivial
  have := any_none [] g r hz
  simp [this]
theorem ContainsR0_fn (v : Value) (r : List (List Pt)) (fid : Nat) (g : List Pt → Bool) (M : Mem) (hv : RegV M v r) (hg : ∀ i, i < r.length → ∀ M', M.le M' → ∀ w, Pts M' w (gr r i) → i64P (gr r i) → V.Fn Tryz.prog fid [w] M' fun rs _ => rs = [.bool (g (gr r i))]) :
  V.Fn Tryz.prog 45 [v, .func (.func fid) #[] #[]] M fun rs _ => rs = [.bool (r.any g)] := by
 obtain ⟨ad, c, rfl, hm, hrd⟩ := hv.get
 refine Fn.of_vc cxOK Tryz.func45 rfl rfl rfl ?_
 repeat (first | refine VIf.tt ?_ | refine VIf.ff ?_)
 refine VFn.mk _ (IndexR0_fn _ r fid g M hv hg) ?_
 rintro rs M1 hM1 ⟨k, rfl, hk⟩
 repeat (first | refine VIf.tt ?_ | refine VIf.ff ?_)
 refine VFact.mk (bool1 ?_) trivial
 rw [← hk]; simp
theorem IndexR1_fn (v : Value) (r : List (List Pt)) (fid : Nat) (c0 : Value) (g : List Pt → Bool) (M : Mem) (hv : RegV M v r) (hg : ∀ i, i < r.length → ∀ M', M.le M' → ∀ w, Pts M' w (gr r i) → i64P (gr r i) → V.Fn Tryz.prog fid [w, c0] M' fun rs _ => rs = [.bool (g (gr r i))]) :
  V.Fn Tryz.prog 78 [v, .func (.func fid) #[] #[c0]] M fun rs _ => ∃ k : Int, rs = [.int .i64 k] ∧ (0 ≤ k ↔ r.any g = true) := by
 obtain ⟨ad, c, rfl, hm, hrd⟩ := hv.get
 refine Fn.of_vc cxOK Tryz.func78 rfl rfl rfl ?_
 repeat (first | refine VIf.tt ?_ | refine VIf.ff ?_)
 refine VCode.loop cxOK (Nat × Mem) (fun s => ⟨[(0, .v (.slice ad r.length c)), (1, .v (.func (.func fid) #[] #[c0])), (7, .v (.int .i64 r.length)), (8, .v (.int .i64 s.1))], [], 0, s.2, 19, ⟨fun _ => none, none, fun _ => none⟩⟩)
  (fun s => M.le s.2 ∧ s.1 ≤ r.length ∧ ∀ j, j < s.1 → g (gr r j) = false) (fun s => r.length - s.1) (0, M) ⟨Mem.le_refl _, Nat.zero_le _, fun j hj => by simp at hj⟩ (Wk.mk' id (by repeat' constructor) (by repeat' constructor) (injOK_id _) rfl rfl rfl) ?_
 rintro ⟨i, M1⟩ ⟨hM1, hi, hz⟩ m
 have hM1 : M.le M1 := hM1
 repeat (first | refine VIf.tt ?_ | refine VIf.ff ?_)
 refine VIf.mk (fun hlt => ?_) (fun hge => ?_)
 ·have hlt : i < r.length := lt_of_dec hlt
  obtain ⟨ad', w, rfl, hp, hp64, hc1⟩ := hrd M1 hM1 i hlt
  repeat (first | refine VIf.tt ?_ | refine VIf.ff ?_)
  refine VIdx.mk ad' i rfl rfl hlt ?_
  repeat (first | refine VIf.tt ?_ | refine VIf.ff ?_)
  refine VRead.mk _ hc1 ?_
  repeat (first | refine VIf.tt ?_ | refine VIf.ff ?_)
  refine VFn.mk _ (hg i hlt M1 hM1 w hp hp64) ?_
  rintro rs M2 hM2 rfl
  repeat (first | refine VIf.tt ?_ | refine VIf.ff ?_)
  refine VIf.mk (fun hc => ?_) (fun hc => ?_)
  ·repeat (first | refine VIf.tt ?_ | refine VIf.ff ?_)
   refine VFact.mk ⟨i, rfl, ?_⟩ trivial
   have := any_getD [] g r hlt hc
   simp [this]
  ·repeat (first | refine VIf.tt ?_ | refine VIf.ff ?_)
   refine VArith.ok (by first | omega | (simp only; omega)) (by first | omega | (simp only; omega)) ?_
   refine ⟨(i + 1, M2), ⟨hM1.trans hM2, hlt, fun j hj => ?_⟩, (by first | omega | (simp only; omega)), (Wk.mk' id (by repeat' constructor) (by repeat' constructor) (injOK_id _) rfl rfl rfl)⟩
   by_cases e : j = i
   ·subst e; exact hc
   ·exact hz j (by simp only at hj ⊢; omega)
 ·have : i = r.length := by have := ge_of_dec hge; have hi : i ≤ r.length := hi; omega
  subst this
  repeat (first | refine VIf.tt ?_ | refine VIf.ff ?_)
  refine VFact.mk ⟨-1, rfl, ?_⟩ trivial
  have := any_none [] g r hz
  simp [this]
theorem ContainsR1_fn (v : Value) (r : List (List Pt)) (fid : Nat) (c0 : Value) (g : List Pt → Bool) (M : Mem) (hv : RegV M v r) (hg : ∀ i, i < r.length → ∀ M', M.le M' → ∀ w, Pts M' w (gr r i) → i64P (gr r i) → V.Fn Tryz.prog fid [w, c0] M' fun rs _ => rs = [.bool (g (gr r i))]) :
  V.Fn Tryz.prog 45 [v, .func (.func fid) #[] #[c0]] M fun rs _ => rs = [.bool (r.any g)] := by
 obtain ⟨ad, c, rfl, hm, hrd⟩ := hv.get
 refine Fn.of_vc cxOK Tryz.func45 rfl rfl rfl ?_
 repeat (first | refine VIf.tt ?_ | refine VIf.ff ?_)
 refine VFn.mk _ (IndexR1_fn _ r fid c0 g M hv hg) ?_
 rintro rs M1 hM1 ⟨k, rfl, hk⟩
 repeat (first | refine VIf.tt ?_ | refine VIf.ff ?_)
 refine VFact.mk (bool1 ?_) trivial
 rw [← hk]; simp
theorem invalid1_fn (w : Value) (ps : List Pt) (M : Mem) (hv : Pts M w ps) (hi : i64P ps) : V.Fn Tryz.prog 91 [w] M fun rs _ => rs = [.bool (!validB ps)] := by
 refine Fn.of_vc cxOK Tryz.func91 rfl rfl rfl ?_
 repeat (first | refine VIf.tt ?_ | refine VIf.ff ?_)
 refine VFn.mk _ (Valid_fn w ps M hv hi) ?_
 rintro rs M1 hM1 rfl
 repeat (first | refine VIf.tt ?_ | refine VIf.ff ?_)
 exact VFact.mk rfl trivial
theorem invalid_fn (v : Value) (r : List (List Pt)) (M : Mem) (hv : RegV M v r) : V.Fn Tryz.prog 60 [v] M fun rs _ => rs = [.bool (r.any fun p => !validB p)] := by
 obtain ⟨ad, c, rfl⟩ := hv.shape
 refine Fn.of_vc cxOK Tryz.func60 rfl rfl rfl ?_
 repeat (first | refine VIf.tt ?_ | refine VIf.ff ?_)
 refine VFn.mk _ (ContainsR0_fn _ r _ (fun p => !validB p) M hv fun i _ M' _ w hw h64 => invalid1_fn w _ M' hw h64) ?_
 rintro rs M1 hM1 rfl
 repeat (first | refine VIf.tt ?_ | refine VIf.ff ?_)
 exact VFact.mk rfl trivial
theorem not_any {α : Type} (g : α → Bool) : ∀ l : List α, (!l.any fun x => !g x) = l.all g
 | [] => rfl
 | x :: l => by
  have := not_any g l
  simp only [List.any_cons, List.all_cons, Bool.not_or, Bool.not_not, this]
theorem regValid_fn (v : Value) (r : List (List Pt)) (M : Mem) (hv : RegV M v r) : V.Fn Tryz.prog 30 [v] M fun rs _ => rs = [.bool (regionB r)] := by
 obtain ⟨ad, c, rfl⟩ := hv.shape
 refine Fn.of_vc cxOK Tryz.func30 rfl rfl rfl ?_
 repeat (first | refine VIf.tt ?_ | refine VIf.ff ?_)
 refine VIf.mk (fun h1 => ?_) (fun h1 => ?_)
 ·repeat (first | refine VIf.tt ?_ | refine VIf.ff ?_)
  refine VFn.mk _ (invalid_fn _ r M hv) ?_
  rintro rs M1 hM1 rfl
  repeat (first | refine VIf.tt ?_ | refine VIf.ff ?_)
  refine VFact.mk ?_ trivial
  have h1 : r.length ≤ 32 := by have := of_decide_eq_true h1; omega
  rw [not_any]
  simp [regionB, h1]
 ·repeat (first | refine VIf.tt ?_ | refine VIf.ff ?_)
  refine VFact.mk ?_ trivial
  have h1 : ¬ r.length ≤ 32 := by have := of_decide_eq_false h1; omega
  simp [regionB, h1]
theorem polygonsR_fn (v : Value) (r : List (List Pt)) (M : Mem) (hv : RegV M v r) : FnP Tryz.prog 42 [v] M [.bool (r.all validB)] := by
 obtain ⟨ad, c, rfl, hm, hrd⟩ := hv.get
 refine Fn.of_vc cxOK Tryz.func42 rfl rfl rfl ?_
 repeat (first | refine VIf.tt ?_ | refine VIf.ff ?_)
 refine VCode.loop cxOK Nat (fun i => ⟨[(0, .v (.slice ad r.length c)), (3, .v (.int .i64 i))], [], 0, M, 18, ⟨fun _ => none, none, fun _ => none⟩⟩)
  (fun i => i ≤ r.length ∧ ∀ j, j < i → validB (gr r j) = true) (fun i => r.length - i) 0 ⟨Nat.zero_le _, fun j hj => by omega⟩ (Wk.mk' id (by repeat' constructor) (by repeat' constructor) (injOK_id _) rfl rfl rfl) ?_
 rintro i ⟨hi, hz⟩ m
 repeat (first | refine VIf.tt ?_ | refine VIf.ff ?_)
 refine VIf.mk (fun hlt => ?_) (fun hge => ?_)
 ·have hlt : i < r.length := lt_of_dec hlt
  obtain ⟨ad', w, rfl, hp, hp64, hc1⟩ := hrd M (Mem.le_refl _) i hlt
  repeat (first | refine VIf.tt ?_ | refine VIf.ff ?_)
  refine VIdx.mk ad' i rfl rfl hlt ?_
  repeat (first | refine VIf.tt ?_ | refine VIf.ff ?_)
  refine VRead.mk _ hc1 ?_
  repeat (first | refine VIf.tt ?_ | refine VIf.ff ?_)
  refine VFn.p (ValidR_fn w _ M hp hp64) ?_
  rw [validR_eq]
  repeat (first | refine VIf.tt ?_ | refine VIf.ff ?_)
  refine VIf.mk (fun hc => ?_) (fun hc => ?_)
  ·repeat (first | refine VIf.tt ?_ | refine VIf.ff ?_)
   refine VFact.mk ⟨?_, rfl⟩ trivial
   rw [all_getD' [] validB r hlt (bn1 hc)]
  ·repeat (first | refine VIf.tt ?_ | refine VIf.ff ?_)
   refine VArith.ok (by first | omega | (simp only; omega)) (by first | omega | (simp only; omega)) ?_
   exact ⟨i + 1, ⟨hlt, stepI hz (bn2 hc)⟩, (by first | omega | (simp only; omega)), (Wk.mk' id (by repeat' constructor) (by repeat' constructor) (injOK_id _) rfl rfl rfl)⟩
 ·have : i = r.length := by have := ge_of_dec hge; omega
  subst this
  repeat (first | refine VIf.tt ?_ | refine VIf.ff ?_)
  refine VFact.mk ⟨?_, rfl⟩ trivial
  rw [all_getD [] validB r hz]
theorem regValidR_fn (v : Value) (r : List (List Pt)) (M : Mem) (hv : RegV M v r) : FnP Tryz.prog 21 [v] M [.bool (regionB r)] := by
 obtain ⟨ad, c, rfl⟩ := hv.shape
 refine Fn.of_vc cxOK Tryz.func21 rfl rfl rfl ?_
 repeat (first | refine VIf.tt ?_ | refine VIf.ff ?_)
 refine VIf.mk (fun h1 => ?_) (fun h1 => ?_)
 ·repeat (first | refine VIf.tt ?_ | refine VIf.ff ?_)
  refine VFn.p (polygonsR_fn _ r M hv) ?_
  repeat (first | refine VIf.tt ?_ | refine VIf.ff ?_)
  refine VFact.mk ⟨?_, rfl⟩ trivial
  have h1 : r.length ≤ 32 := by have := of_decide_eq_true h1; omega
  simp [regionB, h1]
 ·repeat (first | refine VIf.tt ?_ | refine VIf.ff ?_)
  refine VFact.mk ⟨?_, rfl⟩ trivial
  have h1 : ¬ r.length ≤ 32 := by have := of_decide_eq_false h1; omega
  simp [regionB, h1]
end Go.Proofs.YtdfhnemhkpplbaaGreatDoor
namespace Go.Proofs.YtdfhnemhkpplbaaGreatDoor
open Go Go.V Go.RowKit
end Go.Proofs.YtdfhnemhkpplbaaGreatDoor
namespace Go.Proofs.YtdfhnemhkpplbaaGreatDoor
open Go Go.V Go.RowKit
theorem len_eq (a b : Nat) : ((a : Int) == (b : Int)) = decide (a = b) := by rw [Bool.eq_iff_iff]; simp; omega
theorem injOK_one (r : Nat → Nat) (i : Nat) (e : Option OE) : injOK r [(i, e)] := ⟨fun j hj => by simp at hj, trivial⟩
theorem take_filter {α : Type} (d : α) (g : α → Bool) (l : List α) {i : Nat} (h : i < l.length) : (l.take (i + 1)).filter g = (l.take i).filter g ++ (if g (l.getD i d) = true then [l.getD i d] else []) := by
 rw [List.take_add_one, List.filter_append]
 simp [h, List.filter_cons]
theorem cellsP_snoc (l : List Pt) (p : Pt) : cellsP (l ++ [p]) = cellsP l ++ [.int .i64 p.1, .int .i64 p.2] := by simp [cellsP]
theorem flt_le {α : Type} (g : α → Bool) (l : List α) (i : Nat) : ((l.take i).filter g).length ≤ l.length := Nat.le_trans (List.length_filter_le _ _) (by rw [List.length_take]; omega)
theorem valid_len {ps : List Pt} (h : validB ps = true) : 1 ≤ ps.length ∧ ps.length ≤ 64 := by simp only [validB, Bool.and_eq_true, decide_eq_true_eq] at h; exact h.1.1
theorem allC_place {ps : List Pt} (h : allC ps) {i : Nat} (hi : i < ps.length) : placeB (gp ps i) = true := by
 simp only [placeB, Bool.and_eq_true]; exact ⟨isCb_iff.2 (h i hi).1, isCb_iff.2 (h i hi).2⟩
theorem isC_i64 {x : Int} (h : isC x) : i64r x := by unfold isC i64r at *; omega
theorem corners_fn (v w : Value) (ps qs : List Pt) (M : Mem) (hv : Pts M v ps) (hw : Pts M w qs) (hC : allC ps) (hl : ps.length ≤ 100000) (hq : validB qs = true) : V.Fn Tryz.prog 125 [v, w] M fun rs M' => ∃ u, rs = [u] ∧ Pts M' u (ps.filter (hasB qs)) := by
 obtain ⟨ad, c, rfl⟩ := hv.shape
 obtain ⟨_, hm, hrd⟩ := hv.cellsOf
 unfold maxLen at hm
 refine Fn.of_vc cxOK Tryz.func125 rfl rfl rfl ?_
 have hq64 : i64P qs := fun i hi => ⟨isC_i64 (allC_of hq i hi).1, isC_i64 (allC_of hq i hi).2⟩
 repeat (first | refine VIf.tt ?_ | refine VIf.ff ?_)
 refine VCode.loop cxOK (Nat × Mem × List Pt)
  (fun s => ⟨[(0, .v (.slice ad ps.length c)), (1, .v w), (5, .row 0), (10, .v (.slice ad ps.length c)), (11, .v (.int .i64 ps.length)), (12, .v (.int .i64 s.1))], [(0, some (.row 24 2 s.2.2.length (cellsP s.2.2)))], 1, s.2.1, 29, ⟨fun _ => none, none, fun _ => none⟩⟩)
  (fun s => M.le s.2.1 ∧ s.1 ≤ ps.length ∧ s.2.2 = (ps.take s.1).filter (hasB qs)) (fun s => ps.length - s.1) (0, M, []) ⟨Mem.le_refl _, Nat.zero_le _, by simp⟩ ?_ ?_
 ·exact Wk.nil 5 24 2 rfl (Wk.mk' id (by repeat' constructor) (by repeat' constructor) (injOK_id _) rfl rfl rfl)
 rintro ⟨i, M1, F⟩ ⟨hM1, hi, hF⟩ m
 have hM1 : M.le M1 := hM1
 have hi : i ≤ ps.length := hi
 have hF : F = (ps.take i).filter (hasB qs) := hF
 have hFl : F.length ≤ ps.length := by rw [hF]; exact flt_le _ _ _
 repeat (first | refine VIf.tt ?_ | refine VIf.ff ?_)
 refine VIf.mk (fun hlt => ?_) (fun hge => ?_)
 ·have hlt : i < ps.length := lt_of_dec hlt
  obtain ⟨ad', rfl, hpi⟩ := hrd M1 hM1 i hlt
  have hs := take_filter (0, 0) (hasB qs) ps hlt
  rw [← hF] at hs
  repeat (first | refine VIf.tt ?_ | refine VIf.ff ?_)
  refine VIdx.mk ad' i rfl rfl hlt ?_
  repeat (first | refine VIf.tt ?_ | refine VIf.ff ?_)
  refine VReads.mk [.int .i64 (gp ps i).1, .int .i64 (gp ps i).2] rfl hpi ?_
  repeat (first | refine VIf.tt ?_ | refine VIf.ff ?_)
  refine VFn.mk _ (Has_fn w qs (gp ps i).1 (gp ps i).2 M1 (hw.le hM1) hq64 (isC_i64 (hC i hlt).1) (isC_i64 (hC i hlt).2)) ?_
  rintro rs M2 hM2 rfl
  rw [hq, allC_place hC hlt]
  repeat (first | refine VIf.tt ?_ | refine VIf.ff ?_)
  refine VIf.mk (fun hb => ?_) (fun hb => ?_)
  ·repeat (first | refine VIf.tt ?_ | refine VIf.ff ?_)
   refine VFact.mk (by simp only; omega) ?_
   repeat (first | refine VIf.tt ?_ | refine VIf.ff ?_)
   refine VArith.ok (by first | omega | (simp only; omega)) (by first | omega | (simp only; omega)) ?_
   rw [show hasB qs (ps.getD i (0, 0)) = true from hb, if_pos rfl] at hs
   exact ⟨(i + 1, M2, F ++ [gp ps i]), ⟨hM1.trans hM2, hlt, hs.symm⟩, (by first | omega | (simp only; omega)), Wk.mk' (fun _ => 3) (by repeat' constructor) ⟨⟨rfl, rfl, rfl, by simp, cellsP_snoc F _⟩, trivial⟩ (injOK_one _ _ _) rfl rfl rfl⟩
  ·repeat (first | refine VIf.tt ?_ | refine VIf.ff ?_)
   refine VArith.ok (by first | omega | (simp only; omega)) (by first | omega | (simp only; omega)) ?_
   rw [show hasB qs (ps.getD i (0, 0)) = false from hb] at hs
   exact ⟨(i + 1, M2, F), ⟨hM1.trans hM2, hlt, by simpa using hs.symm⟩, (by first | omega | (simp only; omega)), (Wk.mk' id (by repeat' constructor) (by repeat' constructor) (injOK_id _) rfl rfl rfl)⟩
 ·have : i = ps.length := by have := ge_of_dec hge; omega
  subst this
  repeat (first | refine VIf.tt ?_ | refine VIf.ff ?_)
  refine VFz.mk fun x B M' hle hx => ?_
  repeat (first | refine VIf.tt ?_ | refine VIf.ff ?_)
  refine VFact.mk ⟨x, rfl, ?_⟩ trivial
  rw [List.take_length] at hF
  rw [← hF]; exact hx
theorem Within_fn (v w : Value) (ps qs : List Pt) (M : Mem) (hv : Pts M v ps) (hw : Pts M w qs) (hp64 : i64P ps) (hq64 : i64P qs) : V.Fn Tryz.prog 120 [v, w] M fun rs _ => rs = if (validB ps && validB qs) = true then [.bool (withinB ps qs), .int .i64 0] else [.bool false, .int .i64 1] := by
 obtain ⟨ad, c, rfl⟩ := hv.shape
 refine Fn.of_vc cxOK Tryz.func120 rfl rfl rfl ?_
 repeat (first | refine VIf.tt ?_ | refine VIf.ff ?_)
 refine VFn.mk _ (Valid_fn _ ps M hv hp64) ?_
 rintro rs M1 hM1 rfl
 repeat (first | refine VIf.tt ?_ | refine VIf.ff ?_)
 refine VIf.mk (fun h1 => ?_) (fun h1 => ?_)
 ·repeat (first | refine VIf.tt ?_ | refine VIf.ff ?_)
  refine VFact.mk ?_ trivial
  rw [bn1 h1]; rfl
 repeat (first | refine VIf.tt ?_ | refine VIf.ff ?_)
 refine VFn.mk _ (Valid_fn _ qs M1 (hw.le hM1) hq64) ?_
 rintro rs M2 hM2 rfl
 repeat (first | refine VIf.tt ?_ | refine VIf.ff ?_)
 refine VIf.mk (fun h2 => ?_) (fun h2 => ?_)
 ·repeat (first | refine VIf.tt ?_ | refine VIf.ff ?_)
  refine VFact.mk ?_ trivial
  rw [bn1 h2, Bool.and_false]; rfl
 have h1 := bn2 h1
 have h2 := bn2 h2
 have hl := valid_len h1
 repeat (first | refine VIf.tt ?_ | refine VIf.ff ?_)
 refine VFn.mk _ (corners_fn _ w ps qs M2 (hv.le (hM1.trans hM2)) (hw.le (hM1.trans hM2)) (allC_of h1) (by omega) h2) ?_
 rintro rs M3 hM3 ⟨u, rfl, hu⟩
 obtain ⟨ud, uc, rfl⟩ := hu.shape
 repeat (first | refine VIf.tt ?_ | refine VIf.ff ?_)
 refine VFact.mk ?_ trivial
 rw [h1, h2]
 show [Value.bool _, _] = [Value.bool _, _]
 rw [withinB, ← filter_len (hasB qs) ps, ← len_eq]
 try rfl
theorem CornersR_fn (v w : Value) (ps qs : List Pt) (M : Mem) (hv : Pts M v ps) (hw : Pts M w qs) (hC : allC ps) (hl : ps.length ≤ 100000) (hq : allC qs) : V.Fn Tryz.prog 127 [v, w] M fun rs M' => ∃ u, rs = [u] ∧ Pts M' u (ps.filter (hasB qs)) := by
 obtain ⟨ad, c, rfl⟩ := hv.shape
 obtain ⟨_, hm, hrd⟩ := hv.cellsOf
 unfold maxLen at hm
 refine Fn.of_vc cxOK Tryz.func127 rfl rfl rfl ?_
 repeat (first | refine VIf.tt ?_ | refine VIf.ff ?_)
 refine VCode.loop cxOK (Nat × List Pt)
  (fun s => ⟨[(0, .v (.slice ad ps.length c)), (1, .v w), (5, .row 0), (6, .v (.int .i64 s.1))], [(0, some (.row 24 2 s.2.length (cellsP s.2)))], 1, M, 29, ⟨fun _ => none, none, fun _ => none⟩⟩)
  (fun s => s.1 ≤ ps.length ∧ s.2 = (ps.take s.1).filter (hasB qs)) (fun s => ps.length - s.1) (0, []) ⟨Nat.zero_le _, by simp⟩ ?_ ?_
 ·exact Wk.nil 5 24 2 rfl (Wk.mk' id (by repeat' constructor) (by repeat' constructor) (injOK_id _) rfl rfl rfl)
 rintro ⟨i, F⟩ ⟨hi, hF⟩ m
 have hi : i ≤ ps.length := hi
 have hF : F = (ps.take i).filter (hasB qs) := hF
 have hFl : F.length ≤ ps.length := by rw [hF]; exact flt_le _ _ _
 repeat (first | refine VIf.tt ?_ | refine VIf.ff ?_)
 refine VIf.mk (fun hlt => ?_) (fun hge => ?_)
 ·have hlt : i < ps.length := lt_of_dec hlt
  obtain ⟨ad', rfl, hpi⟩ := hrd M (Mem.le_refl _) i hlt
  have hs := take_filter (0, 0) (hasB qs) ps hlt
  rw [← hF] at hs
  repeat (first | refine VIf.tt ?_ | refine VIf.ff ?_)
  refine VIdx.mk ad' i rfl rfl hlt ?_
  repeat (first | refine VIf.tt ?_ | refine VIf.ff ?_)
  refine VReads.mk [.int .i64 (gp ps i).1, .int .i64 (gp ps i).2] rfl hpi ?_
  repeat (first | refine VIf.tt ?_ | refine VIf.ff ?_)
  refine VFn.p (Inside_fn w qs (gp ps i).1 (gp ps i).2 M hw hq (hC i hlt).1 (hC i hlt).2) ?_
  repeat (first | refine VIf.tt ?_ | refine VIf.ff ?_)
  refine VIf.mk (fun hb => ?_) (fun hb => ?_)
  ·repeat (first | refine VIf.tt ?_ | refine VIf.ff ?_)
   refine VIdx.mk ad' i rfl rfl hlt ?_
   repeat (first | refine VIf.tt ?_ | refine VIf.ff ?_)
   refine VReads.mk [.int .i64 (gp ps i).1, .int .i64 (gp ps i).2] rfl hpi ?_
   repeat (first | refine VIf.tt ?_ | refine VIf.ff ?_)
   refine VFact.mk (by simp only; omega) ?_
   repeat (first | refine VIf.tt ?_ | refine VIf.ff ?_)
   refine VArith.ok (by first | omega | (simp only; omega)) (by first | omega | (simp only; omega)) ?_
   rw [show hasB qs (ps.getD i (0, 0)) = true from hb, if_pos rfl] at hs
   exact ⟨(i + 1, F ++ [gp ps i]), ⟨hlt, hs.symm⟩, (by first | omega | (simp only; omega)), Wk.mk' (fun _ => 2) (by repeat' constructor) ⟨⟨rfl, rfl, rfl, by simp, cellsP_snoc F _⟩, trivial⟩ (injOK_one _ _ _) rfl rfl rfl⟩
  ·repeat (first | refine VIf.tt ?_ | refine VIf.ff ?_)
   refine VArith.ok (by first | omega | (simp only; omega)) (by first | omega | (simp only; omega)) ?_
   rw [show hasB qs (ps.getD i (0, 0)) = false from hb] at hs
   exact ⟨(i + 1, F), ⟨hlt, by simpa using hs.symm⟩, (by first | omega | (simp only; omega)), (Wk.mk' id (by repeat' constructor) (by repeat' constructor) (injOK_id _) rfl rfl rfl)⟩
 ·have : i = ps.length := by have := ge_of_dec hge; omega
  subst this
  repeat (first | refine VIf.tt ?_ | refine VIf.ff ?_)
  refine VFz.mk fun x B M' hle hx => ?_
  repeat (first | refine VIf.tt ?_ | refine VIf.ff ?_)
  refine VFact.mk ⟨x, rfl, ?_⟩ trivial
  rw [List.take_length] at hF
  rw [← hF]; exact hx
theorem Lies_fn (v w : Value) (ps qs : List Pt) (M : Mem) (hv : Pts M v ps) (hw : Pts M w qs) (hC : allC ps) (hl : ps.length ≤ 100000) (hq : allC qs) : V.Fn Tryz.prog 105 [v, w] M fun rs _ => rs = [.bool (withinB ps qs)] := by
 obtain ⟨ad, c, rfl⟩ := hv.shape
 refine Fn.of_vc cxOK Tryz.func105 rfl rfl rfl ?_
 repeat (first | refine VIf.tt ?_ | refine VIf.ff ?_)
 refine VFn.mk _ (CornersR_fn _ w ps qs M hv hw hC hl hq) ?_
 rintro rs M3 hM3 ⟨u, rfl, hu⟩
 obtain ⟨ud, uc, rfl⟩ := hu.shape
 repeat (first | refine VIf.tt ?_ | refine VIf.ff ?_)
 refine VFact.mk ?_ trivial
 rw [withinB, ← filter_len (hasB qs) ps, ← len_eq]
end Go.Proofs.YtdfhnemhkpplbaaGreatDoor
namespace Go.Proofs.YtdfhnemhkpplbaaGreatDoor
open Go Go.V Go.RowKit
end Go.Proofs.YtdfhnemhkpplbaaGreatDoor
namespace Go.Proofs.YtdfhnemhkpplbaaGreatDoor
open Go Go.V Go.RowKit
end Go.Proofs.YtdfhnemhkpplbaaGreatDoor
namespace Go.Proofs.YtdfhnemhkpplbaaGreatDoor
open Go Go.V Go.RowKit
end Go.Proofs.YtdfhnemhkpplbaaGreatDoor
namespace Go.Proofs.YtdfhnemhkpplbaaGreatDoor
open Go Go.V Go.RowKit
theorem Few07_fn (v : Value) (r : List (List Pt)) (M : Mem) (hv : RegV M v r) : V.Fn Tryz.prog 8 [v] M fun rs _ => ∃ b, rs = [.bool b] := by
 obtain ⟨ad, c, rfl, hm, hrd⟩ := hv.get
 refine Fn.of_vc cxOK Tryz.func8 rfl rfl rfl ?_
 repeat (first | refine VIf.tt ?_ | refine VIf.ff ?_)
 refine VCode.loop cxOK (Nat × Int) (fun s => ⟨[(0, .v (.slice ad r.length c)), (3, .v (.int .i64 s.2)), (4, .v (.int .i64 s.1))], [], 0, M, 29, ⟨fun _ => none, none, fun _ => none⟩⟩)
  (fun s => s.1 ≤ r.length) (fun s => r.length - s.1) (0, 0) (Nat.zero_le _) (Wk.mk' id (by repeat' constructor) (by repeat' constructor) (injOK_id _) rfl rfl rfl) ?_
 rintro ⟨i, n⟩ hi m
 have hi : i ≤ r.length := hi
 have done : ∀ {b : Bool}, ∃ b', [Value.bool b] = [.bool b'] := fun {b} => ⟨b, rfl⟩
 repeat (first | refine VIf.tt ?_ | refine VIf.ff ?_)
 refine VIf.mk (fun hlt => ?_) (fun hge => ?_)
 ·have hlt : i < r.length := lt_of_dec hlt
  repeat (first | refine VIf.tt ?_ | refine VIf.ff ?_)
  refine VIf.mk (fun h9 => ?_) (fun h9 => ?_)
  ·obtain ⟨ad', w, rfl, hp, _, hc1⟩ := hrd M (Mem.le_refl _) i hlt
   obtain ⟨wd, wc, rfl⟩ := hp.shape
   repeat (first | refine VIf.tt ?_ | refine VIf.ff ?_)
   refine VIdx.mk ad' i rfl rfl hlt ?_
   repeat (first | refine VIf.tt ?_ | refine VIf.ff ?_)
   refine VRead.mk _ hc1 ?_
   repeat (first | refine VIf.tt ?_ | refine VIf.ff ?_)
   refine VArith.wr ?_
   repeat (first | refine VIf.tt ?_ | refine VIf.ff ?_)
   refine VArith.ok (by first | omega | (simp only; omega)) (by first | omega | (simp only; omega)) ?_
   exact ⟨(i + 1, _), hlt, (by first | omega | (simp only; omega)), (Wk.mk' id (by repeat' constructor) (by repeat' constructor) (injOK_id _) rfl rfl rfl)⟩
  ·repeat (first | refine VIf.tt ?_ | refine VIf.ff ?_)
   refine VIf.mk (fun hb => ?_) (fun hb => ?_)
   ·repeat (first | refine VIf.tt ?_ | refine VIf.ff ?_)
    exact VFact.mk done trivial
   ·repeat (first | refine VIf.tt ?_ | refine VIf.ff ?_)
    exact VFact.mk done trivial
 ·repeat (first | refine VIf.tt ?_ | refine VIf.ff ?_)
  refine VIf.mk (fun hb => ?_) (fun hb => ?_)
  ·repeat (first | refine VIf.tt ?_ | refine VIf.ff ?_)
   exact VFact.mk done trivial
  ·repeat (first | refine VIf.tt ?_ | refine VIf.ff ?_)
   exact VFact.mk done trivial
def DL {α : Type} (D : Mem → α → List Value → Prop) (M : Mem) : List α → List (List Value) → Prop
 | [], [] => True
 | x :: l, r :: rows => D M x r ∧ DL D M l rows
 | _, _ => False
theorem DL.get {α : Type} {D : Mem → α → List Value → Prop} {M : Mem} : ∀ {l : List α} {rows : List (List Value)}, DL D M l rows → rows.length = l.length ∧ ∀ (i : Nat) (x : α) (r : List Value), l[i]? = some x → rows[i]? = some r → D M x r
 | [], [], _ => ⟨rfl, fun i x r h => by simp at h⟩
 | x :: l, r :: rows, h => by
  obtain ⟨h1, h2⟩ := DL.get h.2
  refine ⟨by simp [h1], fun i y s hy hs => ?_⟩
  match i, hy, hs with
  | 0, hy, hs => simp at hy hs; subst hy hs; exact h.1
  | i + 1, hy, hs => exact h2 i y s (by simpa using hy) (by simpa using hs)
 | [], _ :: _, h => h.elim
 | _ :: _, [], h => h.elim
theorem Arr.of {α : Type} {D : Mem → α → List Value → Prop} {M : Mem} {k : Nat} {v : Value} {l : List α} (rows : List (List Value)) (hk : ∀ r ∈ rows, r.length = k) (h : SlAt M k v l.length rows.flatten) (hd : DL D M l rows) : Arr D M k v l :=
 ⟨rows, hd.get.1, hk, h, hd.get.2⟩
theorem SlAt.nil (M : Mem) (k : Nat) : SlAt M k (.slice none 0 0) 0 [] := ⟨none, 0, rfl, Nat.le_refl _, Nat.zero_le _, by simp, by simp, fun h => absurd h (Nat.lt_irrefl _)⟩
theorem RegV.of1 {M : Mem} {s p : Value} {ps : List Pt} (h : SlAt M 1 s 1 [p]) (hp : Pts M p ps) (h64 : i64P ps) : RegV M s [ps] :=
 Arr.of [[p]] (by simp) h ⟨⟨p, rfl, hp, h64⟩, trivial⟩
instance (x : Int) : Decidable (i64r x) := by unfold i64r; infer_instance
theorem SlAt.shape {M : Mem} {k n : Nat} {v : Value} {xs : List Value} (h : SlAt M k v n xs) : ∃ a c, v = .slice a n c := let ⟨a, c, e, _⟩ := h; ⟨a, c, e⟩
theorem Pts.nil (M : Mem) : Pts M (.slice none 0 0) [] := SlAt.nil M 2
end Go.Proofs.YtdfhnemhkpplbaaGreatDoor
namespace Go.Proofs.YtdfhnemhkpplbaaGreatDoor
open Go Go.V Go.RowKit
theorem regPlace_fn (x y : Int) (M : Mem) : FnP Tryz.prog 43 [pt x y] M [.bool (isCb x && isCb y)] := by
 refine Fn.of_vc cxOK Tryz.func43 rfl rfl rfl ?_
 repeat' (first | refine VIf.tt ?_ | refine VIf.ff ?_ | refine VIf.mk (fun _ => ?_) (fun _ => ?_) | refine VFact.mk ?_ trivial)
 all_goals (refine ⟨bool1 ?_, rfl⟩; simp only [isCb, Bool.and_eq_true, decide_eq_true_eq, decide_eq_false_iff_not, Bool.false_eq_true, false_iff] at *; omega)
theorem regHas1_fn (w : Value) (ps : List Pt) (B : Nat) (x y : Int) (M : Mem) (hB : M B = some (.cells #[.int .i64 x, .int .i64 y] 24 (0, 0))) (hw : Pts M w ps) (h64 : i64P ps) (hV : validB ps = true) (hP : placeB (x, y) = true) :
  V.Fn Tryz.prog 44 [w, .pointer (some ⟨B, 0, none⟩)] M fun rs _ => rs = [.bool (hasB ps (x, y))] := by
 obtain ⟨ad, c, rfl⟩ := hw.shape
 have hxy : isC x ∧ isC y := by
  simp only [placeB, Bool.and_eq_true] at hP
  exact ⟨isCb_iff.1 hP.1, isCb_iff.1 hP.2⟩
 refine Fn.of_vc cxOK Tryz.func44 rfl rfl rfl ?_
 repeat (first | refine VIf.tt ?_ | refine VIf.ff ?_)
 refine VReads.mk [.int .i64 x, .int .i64 y] rfl (fun j v hj => cellAt hB j (by simpa using hj)) ?_
 repeat (first | refine VIf.tt ?_ | refine VIf.ff ?_)
 refine VFn.mk _ (Has_fn _ ps x y M hw h64 (isC_i64 hxy.1) (isC_i64 hxy.2)) ?_
 rintro rs M1 hM1 rfl
 rw [hV, hP]
 repeat (first | refine VIf.tt ?_ | refine VIf.ff ?_)
 exact VFact.mk rfl trivial
theorem regHas_fn (v : Value) (r : List (List Pt)) (x y : Int) (M : Mem) (hv : RegV M v r) : V.Fn Tryz.prog 22 [v, pt x y] M fun rs _ => rs = if (regionB r && placeB (x, y)) = true then [.bool (r.any fun p => hasB p (x, y)), .int .i64 0] else [.bool false, .int .i64 1] := by
 obtain ⟨ad, c, rfl⟩ := hv.shape
 refine Fn.of_vc cxOK Tryz.func22 rfl rfl rfl ?_
 repeat (first | refine VIf.tt ?_ | refine VIf.ff ?_)
 refine VFn.mk _ (regValid_fn _ r M hv) ?_
 rintro rs M1 hM1 rfl
 repeat (first | refine VIf.tt ?_ | refine VIf.ff ?_)
 refine VIf.mk (fun hV => ?_) (fun hV => ?_)
 ·repeat (first | refine VIf.tt ?_ | refine VIf.ff ?_)
  refine VFact.mk ?_ trivial
  rw [bn1 hV]; rfl
 repeat (first | refine VIf.tt ?_ | refine VIf.ff ?_)
 refine VFn.p (regPlace_fn _ _ _) ?_
 repeat (first | refine VIf.tt ?_ | refine VIf.ff ?_)
 refine VIf.mk (fun hP => ?_) (fun hP => ?_)
 ·repeat (first | refine VIf.tt ?_ | refine VIf.ff ?_)
  refine VFact.mk ?_ trivial
  rw [show placeB (x, y) = false from bn1 hP, Bool.and_false]; rfl
 have hV := bn2 hV
 have hP : placeB (x, y) = true := bn2 hP
 rw [hV, hP]
 repeat (first | refine VIf.tt ?_ | refine VIf.ff ?_)
 refine VOwn.frz ?_
 repeat (first | refine VIf.tt ?_ | refine VIf.ff ?_)
 refine VFzB.mk fun u B M2 hM2 hB => ?_
 have m2 : M.le M2 := hM1.trans hM2
 have hall : r.all validB = true := by
  simp only [regionB, Bool.and_eq_true] at hV
  exact hV.2
 repeat (first | refine VIf.tt ?_ | refine VIf.ff ?_)
 refine VFn.mk _ (ContainsR1_fn _ r _ (.pointer (some ⟨B, 0, none⟩)) (fun p => hasB p (x, y)) M2 (hv.le m2) fun i hi M' hM' w hw h64 => regHas1_fn w _ B x y M' (hM' _ _ hB) hw h64 (all_at [] hall hi) hP) ?_
 rintro rs M3 hM3 rfl
 repeat (first | refine VIf.tt ?_ | refine VIf.ff ?_)
 exact VFact.mk rfl trivial
theorem regHas_is {v : Value} {r : List (List Pt)} {x y : Int} {M : Mem} {b : Bool} (hv : RegV M v r) (hV : regionB r = true) (hP : placeB (x, y) = true) (hb : (r.any fun p => hasB p (x, y)) = b) : V.Fn Tryz.prog 22 [v, pt x y] M fun rs _ => rs = [.bool b, .int .i64 0] :=
 (regHas_fn v r x y M hv).mono fun rs M' _ h => by rw [h, hV, hP, hb]; rfl
theorem Valid_is {v : Value} {ps : List Pt} {M : Mem} {b : Bool} (hv : Pts M v ps) (hi64 : i64P ps) (hb : validB ps = b) : V.Fn Tryz.prog 17 [v] M fun rs _ => rs = [.bool b] :=
 (Valid_fn v ps M hv hi64).mono fun rs M' _ h => by rw [h, hb]
end Go.Proofs.YtdfhnemhkpplbaaGreatDoor
namespace Go.Proofs.YtdfhnemhkpplbaaGreatDoor
open Go Go.V Go.RowKit
theorem IndexP_fn (v : Value) (ps : List Pt) (fid : Nat) (g : Pt → Bool) (M : Mem) (hv : Pts M v ps) (hg : ∀ i, i < ps.length → ∀ M', FnP Tryz.prog fid [ptv (gp ps i)] M' [.bool (g (gp ps i))]) :
  V.Fn Tryz.prog 82 [v, .func (.func fid) #[] #[]] M fun rs _ => ∃ k : Int, rs = [.int .i64 k] ∧ (0 ≤ k ↔ ps.any g = true) := by
 obtain ⟨ad, c, rfl⟩ := hv.shape
 obtain ⟨_, hm, hrd⟩ := hv.cellsOf
 unfold maxLen at hm
 refine Fn.of_vc cxOK Tryz.func82 rfl rfl rfl ?_
 repeat (first | refine VIf.tt ?_ | refine VIf.ff ?_)
 refine VCode.loop cxOK Nat (fun i => ⟨[(0, .v (.slice ad ps.length c)), (1, .v (.func (.func fid) #[] #[])), (7, .v (.int .i64 ps.length)), (8, .v (.int .i64 i))], [], 0, M, 19, ⟨fun _ => none, none, fun _ => none⟩⟩)
  (fun i => i ≤ ps.length ∧ ∀ j, j < i → g (gp ps j) = false) (fun i => ps.length - i) 0 ⟨Nat.zero_le _, fun j hj => by simp at hj⟩ (Wk.mk' id (by repeat' constructor) (by repeat' constructor) (injOK_id _) rfl rfl rfl) ?_
 rintro i ⟨hi, hz⟩ m
 repeat (first | refine VIf.tt ?_ | refine VIf.ff ?_)
 refine VIf.mk (fun hlt => ?_) (fun hge => ?_)
 ·have hlt := lt_of_dec hlt
  obtain ⟨ad', ead, hpi⟩ := hrd M (Mem.le_refl _) i hlt
  repeat (first | refine VIf.tt ?_ | refine VIf.ff ?_)
  refine VIdx.mk ad' i ead rfl hlt ?_
  repeat (first | refine VIf.tt ?_ | refine VIf.ff ?_)
  refine VReads.mk [.int .i64 (gp ps i).1, .int .i64 (gp ps i).2] rfl hpi ?_
  repeat (first | refine VIf.tt ?_ | refine VIf.ff ?_)
  refine VFn.p (hg i hlt M) ?_
  repeat (first | refine VIf.tt ?_ | refine VIf.ff ?_)
  refine VIf.mk (fun hc => ?_) (fun hc => ?_)
  ·repeat (first | refine VIf.tt ?_ | refine VIf.ff ?_)
   refine VFact.mk ⟨i, rfl, ?_⟩ trivial
   have := any_getD (0, 0) g ps hlt hc
   simp [this]
  ·repeat (first | refine VIf.tt ?_ | refine VIf.ff ?_)
   refine VArith.ok (by first | omega | (simp only; omega)) (by first | omega | (simp only; omega)) ?_
   refine ⟨i + 1, ⟨hlt, fun j hj => ?_⟩, (by first | omega | (simp only; omega)), (Wk.mk' id (by repeat' constructor) (by repeat' constructor) (injOK_id _) rfl rfl rfl)⟩
   by_cases e : j = i
   ·subst e; exact hc
   ·exact hz j (by omega)
 ·have : i = ps.length := by have := ge_of_dec hge; omega
  subst this
  repeat (first | refine VIf.tt ?_ | refine VIf.ff ?_)
  refine VFact.mk ⟨-1, rfl, ?_⟩ trivial
  have := any_none (0, 0) g ps hz
  simp [this]
theorem ContainsP_fn (v : Value) (ps : List Pt) (fid : Nat) (g : Pt → Bool) (M : Mem) (hv : Pts M v ps) (hg : ∀ i, i < ps.length → ∀ M', FnP Tryz.prog fid [ptv (gp ps i)] M' [.bool (g (gp ps i))]) :
  V.Fn Tryz.prog 52 [v, .func (.func fid) #[] #[]] M fun rs _ => rs = [.bool (ps.any g)] := by
 obtain ⟨ad, c, rfl⟩ := hv.shape
 refine Fn.of_vc cxOK Tryz.func52 rfl rfl rfl ?_
 repeat (first | refine VIf.tt ?_ | refine VIf.ff ?_)
 refine VFn.mk _ (IndexP_fn _ ps fid g M hv hg) ?_
 rintro rs M1 hM1 ⟨k, rfl, hk⟩
 repeat (first | refine VIf.tt ?_ | refine VIf.ff ?_)
 refine VFact.mk (bool1 ?_) trivial
 rw [← hk]; simp
theorem Hull1_fn (p : Pt) (h1 : i64r p.1) (h2 : i64r p.2) (M : Mem) : FnP Tryz.prog 53 [ptv p] M [.bool (!placeB p)] := by
 refine Fn.of_vc cxOK Tryz.func53 rfl rfl rfl ?_
 repeat (first | refine VIf.tt ?_ | refine VIf.ff ?_)
 refine VFn.p (isPlace_fn _ _ _ h1 h2) ?_
 repeat (first | refine VIf.tt ?_ | refine VIf.ff ?_)
 exact VFact.mk ⟨rfl, rfl⟩ trivial
theorem Clone_fn (v : Value) (ps : List Pt) (M : Mem) (hv : Pts M v ps) (hn : 1 ≤ ps.length) (hn' : ps.length ≤ 100000) : V.Fn Tryz.prog 83 [v] M fun rs M' => ∃ u, rs = [u] ∧ Pts M' u ps := by
 obtain ⟨ad, c, rfl⟩ := hv.shape
 obtain ⟨_, hm, hrd⟩ := hv.cellsOf
 obtain ⟨ad', rfl, _⟩ := hrd M (Mem.le_refl _) 0 (by omega)
 refine Fn.of_vc cxOK Tryz.func83 rfl rfl rfl ?_
 repeat (first | refine VIf.tt ?_ | refine VIf.ff ?_)
 refine VSl.mk ps.length (cellsP ps) hv ?_
 repeat (first | refine VIf.tt ?_ | refine VIf.ff ?_)
 refine VFact.mk (by simp only; omega) ?_
 repeat (first | refine VIf.tt ?_ | refine VIf.ff ?_)
 refine VFz.mk fun x B M' hle hx => ?_
 repeat (first | refine VIf.tt ?_ | refine VIf.ff ?_)
 refine VFact.mk ⟨x, rfl, ?_⟩ trivial
 have e : SlAt M' 2 x (0 + ps.length) ([] ++ cellsP ps) := hx
 rw [Nat.zero_add, List.nil_append] at e
 exact e
theorem insert1_fn (v : Value) (f : Nat) (M : Mem) : FnP Tryz.prog 133 [v, .int .i64 0, .int .i64 1, .func (.func f) #[] #[]] M [] := by
 refine Fn.of_vc cxOK Tryz.func133 rfl rfl rfl ?_
 repeat (first | refine VIf.tt ?_ | refine VIf.ff ?_)
 refine VArith.ok (by first | omega | (simp only; omega)) (by first | omega | (simp only; omega)) ?_
 repeat (first | refine VIf.tt ?_ | refine VIf.ff ?_)
 refine VCode.loop cxOK Unit (fun _ => ⟨[(2, .v (.int .i64 1)), (8, .v (.int .i64 1))], [], 0, M, 53, ⟨fun _ => none, none, fun _ => none⟩⟩) (fun _ => True) (fun _ => 0) () trivial (Wk.mk' id (by repeat' constructor) (by repeat' constructor) (injOK_id _) rfl rfl rfl) ?_
 rintro _ _ m
 repeat (first | refine VIf.tt ?_ | refine VIf.ff ?_)
 exact VFact.mk ⟨rfl, rfl⟩ trivial
theorem pdq1_fn (v : Value) (f : Nat) (l : Int) (M : Mem) : FnP Tryz.prog 113 [v, .int .i64 0, .int .i64 1, .int .i64 l, .func (.func f) #[] #[]] M [] := by
 refine Fn.of_vc cxOK Tryz.func113 rfl rfl rfl ?_
 repeat (first | refine VIf.tt ?_ | refine VIf.ff ?_)
 refine VCode.loop cxOK Unit (fun _ => ⟨[(0, .v v), (1, .v (.int .i64 0)), (2, .v (.int .i64 1)), (4, .v (.func (.func f) #[] #[]))], [], 0, M, 148, ⟨fun _ => none, none, fun _ => none⟩⟩) (fun _ => True) (fun _ => 0) () trivial (Wk.mk' id (by repeat' constructor) (by repeat' constructor) (injOK_id _) rfl rfl rfl) ?_
 rintro _ _ m
 repeat (first | refine VIf.tt ?_ | refine VIf.ff ?_)
 refine VArith.ok (by first | omega | (simp only; omega)) (by first | omega | (simp only; omega)) ?_
 repeat (first | refine VIf.tt ?_ | refine VIf.ff ?_)
 refine VFn.p (insert1_fn _ _ _) ?_
 repeat (first | refine VIf.tt ?_ | refine VIf.ff ?_)
 exact VFact.mk ⟨rfl, rfl⟩ trivial
end Go.Proofs.YtdfhnemhkpplbaaGreatDoor
namespace Go.Proofs.YtdfhnemhkpplbaaGreatDoor
open Go Go.V Go.RowKit
set_option maxRecDepth 100000 in
set_option maxHeartbeats 1000000 in
theorem len64_one (w : World) : Calls Tryz.prog 142 #[.int .u64 1] w fun e w' => e = .returned (.int .i64 1) ∧ w' = w := by
 go_enter Tryz.func142, Tryz.ntmps142
 go_wp2
 go_ret
 exact ⟨by kernel_rfl, rfl⟩
set_option maxRecDepth 100000 in
set_option maxHeartbeats 1000000 in
theorem len_one_any (w : World) : Calls Tryz.prog 114 #[.int .u64 1] w fun e w' => e = .returned (.int .i64 1) ∧ w' = w := by
 go_enter Tryz.func114, Tryz.ntmps114
 go_wp2_with (go_at_call 142; refine (len64_one _).mono ?_; rintro e w' ⟨rfl, rfl⟩)
 go_ret
 exact ⟨by kernel_rfl, rfl⟩
theorem FnP.of_same {P : Program} {f : Nat} {args : List Value} {M : Mem} {vs : List Value} (he : Enters P f) (h : ∀ W, Calls P f args.toArray W fun e w' => e = .returned (ret vs) ∧ w' = W) : FnP P f args M vs :=
 ⟨he, fun W hW => (h W).mono fun e w' ⟨h1, h2⟩ => ⟨vs, M, h1, h2 ▸ Below.refl _ _, Mem.le_refl _, h2 ▸ hW, fun _ _ => rfl, rfl, rfl⟩⟩
theorem Len1_fn (M : Mem) : FnP Tryz.prog 114 [.int .u64 1] M [.int .i64 1] :=
 FnP.of_same (enters_of Tryz.func114 (by kernel_rfl) rfl) len_one_any
end Go.Proofs.YtdfhnemhkpplbaaGreatDoor
namespace Go.Proofs.YtdfhnemhkpplbaaGreatDoor
open Go Go.V Go.RowKit
theorem sort1_fn (ad : Option Addr) (c f : Nat) (M : Mem) : FnP Tryz.prog 84 [.slice ad 1 c, .func (.func f) #[] #[]] M [] := by
 refine Fn.of_vc cxOK Tryz.func84 rfl rfl rfl ?_
 repeat (first | refine VIf.tt ?_ | refine VIf.ff ?_)
 refine VArith.ok (by first | omega | (simp only; omega)) (by first | omega | (simp only; omega)) ?_
 repeat (first | refine VIf.tt ?_ | refine VIf.ff ?_)
 refine VFn.p (Len1_fn _) ?_
 repeat (first | refine VIf.tt ?_ | refine VIf.ff ?_)
 refine VFn.p (pdq1_fn _ _ _ _) ?_
 repeat (first | refine VIf.tt ?_ | refine VIf.ff ?_)
 exact VFact.mk ⟨rfl, rfl⟩ trivial
theorem compact1_fn (ad : Option Addr) (c : Nat) (M : Mem) : FnP Tryz.prog 86 [.slice ad 1 c] M [.slice ad 1 c] := by
 refine Fn.of_vc cxOK Tryz.func86 rfl rfl rfl ?_
 repeat (first | refine VIf.tt ?_ | refine VIf.ff ?_)
 exact VFact.mk ⟨rfl, rfl⟩ trivial
theorem around1_fn (v : Value) (p : Pt) (M : Mem) (hv : Pts M v [p]) : V.Fn Tryz.prog 54 [v] M fun rs M' => ∃ u, rs = [u] ∧ Pts M' u [p] := by
 refine Fn.of_vc cxOK Tryz.func54 rfl rfl rfl ?_
 repeat (first | refine VIf.tt ?_ | refine VIf.ff ?_)
 refine VFn.mk _ (Clone_fn v [p] M hv (by simp) (by simp)) ?_
 rintro rs M1 hM1 ⟨u, rfl, hu⟩
 obtain ⟨ud, uc, rfl⟩ := hu.shape
 repeat (first | refine VIf.tt ?_ | refine VIf.ff ?_)
 refine VFn.p (sort1_fn _ _ _ _) ?_
 repeat (first | refine VIf.tt ?_ | refine VIf.ff ?_)
 refine VFn.p (compact1_fn _ _ _) ?_
 repeat (first | refine VIf.tt ?_ | refine VIf.ff ?_)
 exact VFact.mk ⟨_, rfl, hu⟩ trivial
theorem HullOne_fn (v : Value) (p : Pt) (M : Mem) (hv : Pts M v [p]) (h1 : i64r p.1) (h2 : i64r p.2) : V.Fn Tryz.prog 26 [v] M fun rs M' => if placeB p = true then ∃ u, rs = [u, .int .i64 0] ∧ Pts M' u [p] else rs = [.slice none 0 0, .int .i64 1] := by
 obtain ⟨ad, c, rfl⟩ := hv.shape
 refine Fn.of_vc cxOK Tryz.func26 rfl rfl rfl ?_
 repeat (first | refine VIf.tt ?_ | refine VIf.ff ?_)
 refine VFn.mk _ (ContainsP_fn _ [p] _ (fun p => !placeB p) M hv fun i hi M' => ?_) ?_
 ·have : i = 0 := by simp at hi; omega
  subst this
  exact Hull1_fn p h1 h2 M'
 rintro rs M1 hM1 rfl
 repeat (first | refine VIf.tt ?_ | refine VIf.ff ?_)
 refine VIf.mk (fun h => ?_) (fun h => ?_)
 ·repeat (first | refine VIf.tt ?_ | refine VIf.ff ?_)
  refine VFact.mk ?_ trivial
  have h : placeB p = false := by simpa using h
  simp only [h, Bool.false_eq_true, if_false]
 ·have h : placeB p = true := by simpa using h
  repeat (first | refine VIf.tt ?_ | refine VIf.ff ?_)
  refine VFn.mk _ (around1_fn _ p M1 (hv.le hM1)) ?_
  rintro rs M2 hM2 ⟨u, rfl, hu⟩
  obtain ⟨ud, uc, rfl⟩ := hu.shape
  repeat (first | refine VIf.tt ?_ | refine VIf.ff ?_)
  refine VFact.mk ?_ trivial
  simp only [h, if_true]
  exact ⟨_, rfl, hu⟩
theorem minkPlace_fn (p : Pt) (M : Mem) (h1 : i64r p.1) (h2 : i64r p.2) : V.Fn Tryz.prog 48 [ptv p] M fun rs _ => rs = [.bool (placeB p)] := by
 refine Fn.of_vc cxOK Tryz.func48 rfl rfl rfl ?_
 repeat (first | refine VIf.tt ?_ | refine VIf.ff ?_)
 refine VFz.mk fun x B M1 hle hx => ?_
 repeat (first | refine VIf.tt ?_ | refine VIf.ff ?_)
 refine VFn.mk _ (HullOne_fn x p M1 hx h1 h2) ?_
 rintro rs M2 hM2 hr
 by_cases hp : placeB p = true
 ·rw [if_pos hp] at hr
  obtain ⟨u, rfl, hu⟩ := hr
  repeat (first | refine VIf.tt ?_ | refine VIf.ff ?_)
  refine VFact.mk ?_ trivial
  rw [hp]; rfl
 ·rw [if_neg hp] at hr
  subst hr
  have hp : placeB p = false := by simpa using hp
  repeat (first | refine VIf.tt ?_ | refine VIf.ff ?_)
  refine VFact.mk ?_ trivial
  rw [hp]; rfl
theorem minkPoly1_fn (w : Value) (ps : List Pt) (M : Mem) (hv : Pts M w ps) (hi : i64P ps) : V.Fn Tryz.prog 81 [w] M fun rs _ => rs = [.bool (!validB ps)] := by
 refine Fn.of_vc cxOK Tryz.func81 rfl rfl rfl ?_
 repeat (first | refine VIf.tt ?_ | refine VIf.ff ?_)
 refine VFn.mk _ (Valid_fn w ps M hv hi) ?_
 rintro rs M1 hM1 rfl
 repeat (first | refine VIf.tt ?_ | refine VIf.ff ?_)
 exact VFact.mk rfl trivial
theorem minkPolys_fn (v : Value) (r : List (List Pt)) (M : Mem) (hv : RegV M v r) : V.Fn Tryz.prog 47 [v] M fun rs _ => rs = [.bool (r.all validB)] := by
 obtain ⟨ad, c, rfl⟩ := hv.shape
 refine Fn.of_vc cxOK Tryz.func47 rfl rfl rfl ?_
 repeat (first | refine VIf.tt ?_ | refine VIf.ff ?_)
 refine VFn.mk _ (ContainsR0_fn _ r _ (fun p => !validB p) M hv fun i _ M' _ w hw h64 => minkPoly1_fn w _ M' hw h64) ?_
 rintro rs M1 hM1 rfl
 repeat (first | refine VIf.tt ?_ | refine VIf.ff ?_)
 refine VFact.mk ?_ trivial
 show [Value.bool _] = [Value.bool _]
 rw [not_any]
theorem plus_fn (p q : Pt) (M : Mem) (h1 : isC p.1) (h2 : isC p.2) (h3 : isC q.1) (h4 : isC q.2) : FnP Tryz.prog 51 [ptv p, ptv q] M [ptv (p.1 + q.1, p.2 + q.2)] := by
 unfold isC at *
 refine Fn.of_vc cxOK Tryz.func51 rfl rfl rfl ?_
 repeat (first | refine VIf.tt ?_ | refine VIf.ff ?_)
 refine VArith.ok (by first | omega | (simp only; omega)) (by first | omega | (simp only; omega)) ?_
 repeat (first | refine VIf.tt ?_ | refine VIf.ff ?_)
 refine VArith.ok (by first | omega | (simp only; omega)) (by first | omega | (simp only; omega)) ?_
 repeat (first | refine VIf.tt ?_ | refine VIf.ff ?_)
 exact VFact.mk ⟨rfl, rfl⟩ trivial
theorem shift1_fn (p q : Pt) (B : Nat) (M : Mem) (hB : M B = some (.cells #[.int .i64 q.1, .int .i64 q.2] 24 (0, 0))) (h1 : isC p.1) (h2 : isC p.2) (h3 : isC q.1) (h4 : isC q.2) : FnP Tryz.prog 50 [ptv p, .pointer (some ⟨B, 0, none⟩)] M [ptv (p.1 + q.1, p.2 + q.2)] := by
 refine Fn.of_vc cxOK Tryz.func50 rfl rfl rfl ?_
 repeat (first | refine VIf.tt ?_ | refine VIf.ff ?_)
 refine VReads.mk [.int .i64 q.1, .int .i64 q.2] rfl (fun j v hj => cellAt hB j (by simpa using hj)) ?_
 repeat (first | refine VIf.tt ?_ | refine VIf.ff ?_)
 refine VFn.p (plus_fn p q M h1 h2 h3 h4) ?_
 repeat (first | refine VIf.tt ?_ | refine VIf.ff ?_)
 exact VFact.mk ⟨rfl, rfl⟩ trivial
def moveP (q : Pt) (ps : List Pt) : List Pt := ps.map fun p => (p.1 + q.1, p.2 + q.2)
theorem take_map (q : Pt) (ps : List Pt) {i : Nat} (h : i < ps.length) : moveP q (ps.take (i + 1)) = moveP q (ps.take i) ++ [((gp ps i).1 + q.1, (gp ps i).2 + q.2)] := by
 unfold moveP
 rw [List.take_add_one, List.map_append]
 simp [gp, h]
theorem each_fn (v : Value) (ps : List Pt) (q : Pt) (B : Nat) (M : Mem) (hv : Pts M v ps) (hB : M B = some (.cells #[.int .i64 q.1, .int .i64 q.2] 24 (0, 0))) (hC : allC ps) (hl : ps.length ≤ 100000) (h3 : isC q.1) (h4 : isC q.2) :
  V.Fn Tryz.prog 49 [v, .func (.func 50) #[] #[.pointer (some ⟨B, 0, none⟩)]] M fun rs M' => ∃ u, rs = [u] ∧ Pts M' u (moveP q ps) := by
 obtain ⟨ad, c, rfl⟩ := hv.shape
 obtain ⟨_, hm, hrd⟩ := hv.cellsOf
 unfold maxLen at hm
 refine Fn.of_vc cxOK Tryz.func49 rfl rfl rfl ?_
 repeat (first | refine VIf.tt ?_ | refine VIf.ff ?_)
 refine VCode.loop cxOK (Nat × List Pt)
  (fun s => ⟨[(1, .v (.func (.func 50) #[] #[.pointer (some ⟨B, 0, none⟩)])), (5, .row 0), (8, .v (.slice ad ps.length c)), (9, .v (.int .i64 ps.length)), (10, .v (.int .i64 s.1))], [(0, some (.row 24 2 s.2.length (cellsP s.2)))], 1, M, 22, ⟨fun _ => none, none, fun _ => none⟩⟩)
  (fun s => s.1 ≤ ps.length ∧ s.2 = moveP q (ps.take s.1)) (fun s => ps.length - s.1) (0, []) ⟨Nat.zero_le _, by simp [moveP]⟩ ?_ ?_
 ·exact Wk.nil 5 24 2 rfl (Wk.mk' id (by repeat' constructor) (by repeat' constructor) (injOK_id _) rfl rfl rfl)
 rintro ⟨i, F⟩ ⟨hi, hF⟩ m
 have hi : i ≤ ps.length := hi
 have hF : F = moveP q (ps.take i) := hF
 have hFl : F.length ≤ ps.length := by rw [hF, moveP, List.length_map, List.length_take]; omega
 repeat (first | refine VIf.tt ?_ | refine VIf.ff ?_)
 refine VIf.mk (fun hlt => ?_) (fun hge => ?_)
 ·have hlt : i < ps.length := lt_of_dec hlt
  obtain ⟨ad', ead, hpi⟩ := hrd M (Mem.le_refl _) i hlt
  repeat (first | refine VIf.tt ?_ | refine VIf.ff ?_)
  refine VIdx.mk ad' i ead rfl hlt ?_
  repeat (first | refine VIf.tt ?_ | refine VIf.ff ?_)
  refine VReads.mk [.int .i64 (gp ps i).1, .int .i64 (gp ps i).2] rfl hpi ?_
  repeat (first | refine VIf.tt ?_ | refine VIf.ff ?_)
  refine VFn.p (shift1_fn (gp ps i) q B M hB (hC i hlt).1 (hC i hlt).2 h3 h4) ?_
  repeat (first | refine VIf.tt ?_ | refine VIf.ff ?_)
  refine VFact.mk (by simp only; omega) ?_
  repeat (first | refine VIf.tt ?_ | refine VIf.ff ?_)
  refine VArith.ok (by first | omega | (simp only; omega)) (by first | omega | (simp only; omega)) ?_
  exact ⟨(i + 1, F ++ [((gp ps i).1 + q.1, (gp ps i).2 + q.2)]), ⟨hlt, by rw [hF]; exact (take_map q ps hlt).symm⟩, (by first | omega | (simp only; omega)), Wk.mk' (fun _ => 3) (by repeat' constructor) ⟨⟨rfl, rfl, rfl, by simp, cellsP_snoc F _⟩, trivial⟩ (injOK_one _ _ _) rfl rfl rfl⟩
 ·have : i = ps.length := by have := ge_of_dec hge; omega
  subst this
  repeat (first | refine VIf.tt ?_ | refine VIf.ff ?_)
  refine VFz.mk fun x B M' hle hx => ?_
  repeat (first | refine VIf.tt ?_ | refine VIf.ff ?_)
  refine VFact.mk ⟨x, rfl, ?_⟩ trivial
  rw [List.take_length] at hF
  rw [← hF]; exact hx
end Go.Proofs.YtdfhnemhkpplbaaGreatDoor
namespace Go.Proofs.YtdfhnemhkpplbaaGreatDoor
open Go Go.RowKit Go.Sort
set_option maxHeartbeats 400000 in
theorem isNaN_any (x : Int) (w : World) :
  Calls Tryz.prog 112 #[.int .i64 x] w fun e w' => e = .returned (.bool false) ∧ w = w' := by
 go_enter Tryz.func112, Tryz.ntmps112
 go_wp2
 go_ret
 exact ⟨rfl, rfl⟩
set_option maxHeartbeats 400000 in
theorem cmpCompare_any (x y : Int) (w : World) :
  Calls Tryz.prog 73 #[.int .i64 x, .int .i64 y] w fun e w' => e = .returned (.int .i64 (cmpI x y)) ∧ w = w' := by
 go_enter Tryz.func73, Tryz.ntmps73
 go_wp2_with (go_at_call 112; refine (isNaN_any _ _).mono ?_; rintro e w' ⟨rfl, rfl⟩)
 all_goals
  go_ret
  exact ⟨by unfold cmpI; simp <;> omega, rfl⟩
set_option maxHeartbeats 400000 in
theorem cmpOr2_any (x y : Int) (w : World) (b : Nat) (h0 : w.cell? ⟨b, 0, none⟩ = some (.int .i64 x)) (h1 : w.cell? ⟨b, 1, none⟩ = some (.int .i64 y)) :
  Calls Tryz.prog 72 #[.slice (some ⟨b, 0, none⟩) 2 2] w fun e w' => e = .returned (.int .i64 (if x = 0 then y else x)) ∧ w = w' := by
 by_cases hx : x = 0
 ·subst hx
  by_cases hy : y = 0
  ·subst hy
   go_enter Tryz.func72, Tryz.ntmps72
   go_wp2
   go_rounds 3
   all_goals go_ret
   all_goals exact ⟨by simp, rfl⟩
  ·have hy1 : (y == 0) = false := by simp [hy]
   have hy2 : (y != 0) = true := by simp [hy]
   go_enter Tryz.func72, Tryz.ntmps72
   go_wp2
   go_rounds 3
   all_goals go_ret
   all_goals exact ⟨by simp, rfl⟩
 ·have hy2 : (x != 0) = true := by simp [hx]
  go_enter Tryz.func72, Tryz.ntmps72
  go_wp2
  go_rounds 2
  all_goals go_ret
  all_goals exact ⟨by simp [hx], rfl⟩
def cmpQ (ax ay bx by' : Int) : Int := if cmpI ax bx = 0 then cmpI ay by' else cmpI ax bx
theorem cmpOr2_is {x y r : Int} (hr : (if x = 0 then y else x) = r) (w : World) (b : Nat) (h0 : w.cell? ⟨b, 0, none⟩ = some (.int .i64 x)) (h1 : w.cell? ⟨b, 1, none⟩ = some (.int .i64 y)) :
  Calls Tryz.prog 72 #[.slice (some ⟨b, 0, none⟩) 2 2] w fun e w' => e = .returned (.int .i64 r) ∧ w = w' := hr ▸ cmpOr2_any x y w b h0 h1
set_option maxHeartbeats 2000000 in
set_option maxRecDepth 100000 in
theorem compare_any (ax ay bx by' r : Int) (hr : cmpQ ax ay bx by' = r) (w : World) :
  Calls Tryz.prog 38 #[.agg #[.int .i64 ax, .int .i64 ay], .agg #[.int .i64 bx, .int .i64 by']] w fun e w' => e = .returned (.int .i64 r) ∧ ∃ q os', w' = grow (w.drewN q) os' := by
 have h3 := fun W b => cmpOr2_is (x := cmpI ax bx) (y := cmpI ay by') hr W b
 clear hr
 go_enter Tryz.func38, Tryz.ntmps38
 go_wp2_with fail
 go_region_held3 (fun w' => w'.cell? ⟨w.heap.size, 0, none⟩ = some (.int .i64 ax) ∧ w'.cell? ⟨w.heap.size, 1, none⟩ = some (.int .i64 ay) ∧ w'.cell? ⟨w.heap.size + 1, 0, none⟩ = some (.int .i64 bx) ∧ w'.cell? ⟨w.heap.size + 1, 1, none⟩ = some (.int .i64 by')) 
  (first | go_keep | simp)
  (first | (go_at_call 73; refine (cmpCompare_any _ _ _).mono ?_; rintro e w' ⟨rfl, rfl⟩) | (go_at_call 72; refine (h3 _ _ (by go_cell) (by go_cell)).mono ?_; rintro e w' ⟨rfl, rfl⟩))
 go_wp2
 go_ret
 exact ⟨rfl, 1, #[.cells #[.int .i64 ax, .int .i64 ay] 24, .cells #[.int .i64 bx, .int .i64 by'] 24, .cells #[.int .i64 (cmpI ax bx), .int .i64 (cmpI ay by')] 3], by
  rw [alloc_eq_grow, alloc_eq_grow, alloc_eq_grow, grow_grow, grow_grow]; rfl⟩
set_option maxHeartbeats 1000000 in
theorem around1_any (ax ay bx by' r : Int) (hr : cmpQ ax ay bx by' = r) (w : World) :
  Calls Tryz.prog 85 #[.agg #[.int .i64 ax, .int .i64 ay], .agg #[.int .i64 bx, .int .i64 by']] w fun e w' => e = .returned (.int .i64 r) ∧ ∃ q os', w' = grow (w.drewN q) os' := by
 have h3 := fun W => compare_any ax ay bx by' r hr W
 clear hr
 go_enter Tryz.func85, Tryz.ntmps85
 go_wp2_with (go_at_call 38; refine (h3 _).mono ?_; rintro e w' ⟨rfl, q, os', rfl⟩)
 go_ret
 exact ⟨rfl, q, #[.cells #[.int .i64 ax, .int .i64 ay] 24, .cells #[.int .i64 bx, .int .i64 by'] 24] ++ os', by
  rw [alloc_eq_grow, alloc_eq_grow, show ∀ (a b : Array Obj), (grow (grow w a) b).drewN q = grow (grow (w.drewN q) a) b from fun _ _ => rfl, grow_grow, grow_grow]
  congr 1
  rw [← Array.append_assoc]; rfl⟩
end Go.Proofs.YtdfhnemhkpplbaaGreatDoor
namespace Go.Proofs.YtdfhnemhkpplbaaGreatDoor
open Go Go.V Go.RowKit Go.Sort Go.Shelf Go.Lib
def ptRen : Ren where
 f := fun
  | 6 => 84
  | 14 => 113
  | 15 => 114
  | 20 => 133
  | 21 => 134
  | 22 => 135
  | 23 => 136
  | 24 => 137
  | 25 => 138
  | 26 => 139
  | 27 => 140
  | 28 => 141
  | 29 => 142
  | 46 => 147
  | 47 => 148
  | 48 => 149
  | 49 => 150
  | 50 => 151
  | 57 => 152
  | n => n
 t := fun
  | 0 => 0
  | 3 => 3
  | 4 => 4
  | 5 => 5
  | 9 => 9
  | 22 => 27
  | 25 => 41
  | 39 => 125
  | 45 => 133
  | 46 => 134
  | 50 => 138
  | 53 => 141
  | 55 => 143
  | 66 => 145
  | 70 => 149
  | 76 => 151
  | 77 => 94
  | 24 => 24
  | n => n
 g := fun n => n
theorem ptLay : SlLaysF0.n6 Tryz.prog ptRen where
 mixed := rfl
 f6 := ⟨Tryz.f84.name, by kernel_rfl, Tryz.func84.trans (by kernel_rfl)⟩
 f14 := ⟨Tryz.f113.name, by kernel_rfl, Tryz.func113.trans (by kernel_rfl)⟩
 f15 := Tryz.func114.trans (by kernel_rfl)
 f20 := ⟨Tryz.f133.name, by kernel_rfl, Tryz.func133.trans (by kernel_rfl)⟩
 f21 := ⟨Tryz.f134.name, by kernel_rfl, Tryz.func134.trans (by kernel_rfl)⟩
 f22 := ⟨Tryz.f135.name, by kernel_rfl, Tryz.func135.trans (by kernel_rfl)⟩
 f23 := ⟨Tryz.f136.name, by kernel_rfl, Tryz.func136.trans (by kernel_rfl)⟩
 f24 := ⟨Tryz.f137.name, by kernel_rfl, Tryz.func137.trans (by kernel_rfl)⟩
 f25 := ⟨Tryz.f138.name, by kernel_rfl, Tryz.func138.trans (by kernel_rfl)⟩
 f26 := ⟨Tryz.f139.name, by kernel_rfl, Tryz.func139.trans (by kernel_rfl)⟩
 f27 := ⟨Tryz.f140.name, by kernel_rfl, Tryz.func140.trans (by kernel_rfl)⟩
 f28 := Tryz.func141.trans (by kernel_rfl)
 f29 := Tryz.func142.trans (by kernel_rfl)
 f46 := ⟨Tryz.f147.name, by kernel_rfl, Tryz.func147.trans (by kernel_rfl)⟩
 f47 := Tryz.func148.trans (by kernel_rfl)
 f48 := Tryz.func149.trans (by kernel_rfl)
 f49 := ⟨Tryz.f150.name, by kernel_rfl, Tryz.func150.trans (by kernel_rfl)⟩
 f50 := ⟨Tryz.f151.name, by kernel_rfl, Tryz.func151.trans (by kernel_rfl)⟩
 f57 := ⟨Tryz.f152.name, by kernel_rfl, Tryz.func152.trans (by kernel_rfl)⟩
 t0 := Tryz.underlying0
 a0 := Tryz.isAgg0
 z0 := Tryz.sizeOf0
 v0 := Tryz.zeroValue0
 t3 := Tryz.underlying3
 a3 := Tryz.isAgg3
 z3 := Tryz.sizeOf3
 v3 := Tryz.zeroValue3
 t4 := Tryz.underlying4
 a4 := Tryz.isAgg4
 z4 := Tryz.sizeOf4
 v4 := Tryz.zeroValue4
 t5 := Tryz.underlying5
 a5 := Tryz.isAgg5
 z5 := Tryz.sizeOf5
 v5 := Tryz.zeroValue5
 t9 := Tryz.underlying9
 a9 := Tryz.isAgg9
 z9 := Tryz.sizeOf9
 v9 := Tryz.zeroValue9
 t22 := Tryz.underlying27
 a22 := Tryz.isAgg27
 z22 := Tryz.sizeOf27
 v22 := Tryz.zeroValue27
 t25 := Tryz.underlying41
 a25 := Tryz.isAgg41
 z25 := Tryz.sizeOf41
 v25 := Tryz.zeroValue41
 t39 := Tryz.underlying125
 a39 := Tryz.isAgg125
 z39 := Tryz.sizeOf125
 v39 := Tryz.zeroValue125
 t45 := Tryz.underlying133
 a45 := Tryz.isAgg133
 z45 := Tryz.sizeOf133
 v45 := Tryz.zeroValue133
 t46 := Tryz.underlying134
 a46 := Tryz.isAgg134
 z46 := Tryz.sizeOf134
 v46 := Tryz.zeroValue134
 t50 := Tryz.underlying138
 a50 := Tryz.isAgg138
 z50 := Tryz.sizeOf138
 v50 := Tryz.zeroValue138
 t53 := Tryz.underlying141
 a53 := Tryz.isAgg141
 z53 := Tryz.sizeOf141
 v53 := Tryz.zeroValue141
 t55 := Tryz.underlying143
 a55 := Tryz.isAgg143
 z55 := Tryz.sizeOf143
 v55 := Tryz.zeroValue143
 t66 := Tryz.underlying145
 a66 := Tryz.isAgg145
 z66 := Tryz.sizeOf145
 v66 := Tryz.zeroValue145
 t70 := Tryz.underlying149
 a70 := Tryz.isAgg149
 z70 := Tryz.sizeOf149
 v70 := Tryz.zeroValue149
 t76 := Tryz.underlying151
 a76 := Tryz.isAgg151
 z76 := Tryz.sizeOf151
 v76 := Tryz.zeroValue151
 t77 := Tryz.underlying94
 a77 := Tryz.isAgg94
 z77 := Tryz.sizeOf94
 v77 := Tryz.zeroValue94
end Go.Proofs.YtdfhnemhkpplbaaGreatDoor
namespace Go.Proofs.YtdfhnemhkpplbaaGreatDoor
open Go Go.V Go.RowKit
theorem VCall.set {P : Program} {f : Nat} {args : List SV} {st : St} {K : SV → St → Prop} (he : Enters P f) {id E sz n : Nat} {xs ys : List Value} (hid : st.own id = some (.row E sz n xs)) (h1 : ∀ y ∈ ys, y.oneCell' = true)
  (h : ∀ n₀ W v ρ, slOf (ρ id) = v → W.ownsRow n₀ E sz v n xs → Calls P f (args.map (SV.den ρ)).toArray W fun e W' => e = .returned (.tuple #[]) ∧ W.grownBy W' (ob v) ∧ W'.ownsRow n₀ E sz v n ys)
  (hK : K (.v (.tuple #[])) { st with ow := (id, some (.row E sz n ys)) :: st.ow }) : VCall P f args st K := by
 refine ⟨he, fun n₀ w M₀ ρ W hS hsa hss => ?_⟩
 obtain ⟨g1, g2, g3, g4⟩ := hS.own id _ hid
 refine (h n₀ W (ρ id) ρ (ownsRow_isSl g3) g3).mono ?_
 rintro e W' ⟨rfl, k1, k2⟩
 refine ⟨.v (.tuple #[]), _, ρ, rfl, trivial, hS.set (e' := .row E sz n ys) hid k1 trivial ⟨k2, h1⟩, ?_, rfl, rfl, hK⟩
 exact fun d s hd => ⟨hss d s hd, s, hd, rfl⟩
section
open Go.Sort
def encP (p : Pt) : List Value := [.int .i64 p.1, .int .i64 p.2]
theorem cellsP_len (ps : List Pt) : (cellsP ps).length = ps.length * 2 := by
 induction ps with
 | nil => rfl
 | cons p l ih => simp only [cellsP, List.flatMap_cons, List.length_append] at *; simp [ih]; omega
theorem cellsP_enc (ps : List Pt) (t : Nat) (h : t < ps.length * 2) : (cellsP ps)[t]? = some (encP (ps.getD (t / 2) (0, 0)))[t % 2]! := by
 obtain ⟨g1, g2⟩ := cellsP_get ps (t / 2) (by omega)
 rcases Nat.mod_two_eq_zero_or_one t with e | e
 ·rw [show 2 * (t / 2) = t by omega] at g1
  rw [e, g1]; rfl
 ·rw [show 2 * (t / 2) + 1 = t by omega] at g2
  rw [e, g2]; rfl
theorem flatP (ps : List Pt) : flatK encP 2 ps.toArray = (cellsP ps).toArray := by
 refine ext_get! (by simp [cellsP_len]) fun t ht => ?_
 have ht' : t < ps.length * 2 := by simpa using ht
 rw [get_flatK _ _ _ _ (by simpa using ht')]
 have h1 := cellsP_enc ps t ht'
 have h2 : (cellsP ps).toArray[t]! = ((cellsP ps)[t]?).get! := by
  simp [getElem!_def]
  cases (cellsP ps)[t]? <;> rfl
 have h3 : (ps.toArray)[t / 2]! = ps.getD (t / 2) (0, 0) := by
  have : t / 2 < ps.length := by omega
  simp [getElem!_def, this]
 rw [h2, h1, h3]; rfl
theorem oneP {ps : List Pt} {y : Value} (hy : y ∈ cellsP ps) : y.oneCell' = true := by
 simp only [cellsP, List.mem_flatMap] at hy
 obtain ⟨p, _, hp⟩ := hy
 simp at hp
 rcases hp with rfl | rfl <;> rfl
def ltP (a b : Pt) : Bool := ltOf cmpPt a b
theorem ltP_iff (a b : Pt) : ltP a b = true ↔ a.1 < b.1 ∨ a.1 = b.1 ∧ a.2 < b.2 := by
 obtain ⟨a1, a2⟩ := a
 obtain ⟨b1, b2⟩ := b
 simp only [ltP, ltOf, cmpPt, cmpP, cmpI, decide_eq_true_eq]
 repeat' split
 all_goals omega
theorem ltP_ff (a b : Pt) : ltP a b = false ↔ ¬ (a.1 < b.1 ∨ a.1 = b.1 ∧ a.2 < b.2) := by rw [← ltP_iff]; simp
theorem swoP : SWO ltP where
 irrefl x := by rw [ltP_ff]; omega
 trans x y z h1 h2 := by rw [ltP_iff] at *; omega
 ntrans x y z h1 h2 := by rw [ltP_ff] at *; omega
theorem totP (x y : Pt) (h1 : ltP x y = false) (h2 : ltP y x = false) : x = y := by
 rw [ltP_ff] at *
 apply Prod.ext <;> omega
def sortP (ps : List Pt) : List Pt := ps.mergeSort fun x y => !ltP y x
theorem cmpLaysP (blk off size : Nat) (w : World) : CmpLays Tryz.prog 85 #[] encP 2 cmpPt blk off size w :=
 fun _ _ _ _ x y => around1_any x.1 x.2 y.1 y.2 _ (by simp only [cmpQ, cmpPt, cmpP]; by_cases h : cmpI x.1 y.1 = 0 <;> simp [h]) _
theorem sort_exact {n₀ : Nat} {W : World} {v : Value} {ps : List Pt} (hs : W.ownsRow n₀ 24 2 v ps.length (cellsP ps)) (hsz : ps.length < 4611686018427387904) :
  Calls Tryz.prog 84 #[v, .func (.func 85) #[] #[]] W fun e W' => e = .returned (.tuple #[]) ∧ W.grownBy W' (ob v) ∧ W'.ownsRow n₀ 24 2 v ps.length (cellsP (sortP ps)) := by
 obtain ⟨hlen, hcase⟩ := hs
 rcases hcase with ⟨rfl, h0⟩ | ⟨g, cap, cur, rfl, hg, hh, hnc, hcm, hcs, hct⟩
 ·have hp : ps = [] := List.eq_nil_of_length_eq_zero h0
  subst hp
  refine (AnyF.slices_SortFunc_none ptLay none 0 _ W).mono ?_
  rintro e W' ⟨rfl, rfl⟩
  refine ⟨rfl, ⟨rfl, rfl, rfl, Nat.le_refl _, fun _ _ _ => rfl⟩, ?_, .inl ⟨rfl, rfl⟩⟩
  simp [sortP, cellsP]
 ·have hlt : g < W.heap.size := (Array.getElem?_eq_some_iff.1 hh).1
  have hcur : ps.length * 2 ≤ cur.size := by rw [hcs]; exact Nat.mul_le_mul_right _ hnc
  have hH : HoldsK encP 2 W g 0 ps.toArray := by
   intro j hj
   rw [flatP] at hj ⊢
   have hj' : j < ps.length * 2 := by simpa [cellsP_len] using hj
   have h2 : id (cellsP ps).toArray[j]! = ((cellsP ps)[j]?).get! := by
    simp [getElem!_def]
    cases (cellsP ps)[j]? <;> rfl
   have h3 : cur[j]? = (cellsP ps)[j]? := by
    rw [← hct, List.getElem?_take, if_pos hj', Array.getElem?_toList]
   refine ⟨?_, ?_⟩
   ·rw [h2, ← h3, Nat.zero_add]
    have : j < cur.size := by omega
    simp [World.cell?, hh, this]
   ·simp [World.frozen?, hh]
  refine (AnyQ.slices_SortFunc_total ptLay 2 Tryz.isAgg24 Tryz.sizeOf24 encP (fun _ => rfl) (fun x v hv => by simp [encP] at hv; rcases hv with rfl | rfl <;> rfl) cmpPt swoP 85 #[] g 0 cap ps.toArray W
   (enters_of Tryz.func85 (by kernel_rfl) rfl) (cmpLaysP _ _ _ _) hH hlt (by simpa using hsz) (fun x y => totP x y)).mono ?_
  rintro e W' ⟨rfl, m, os, rfl⟩
  have hsl : (sortP ps).length = ps.length := List.length_mergeSort _
  have hrow : (sortWorldK encP 2 W g 0 m (ps.toArray.toList.mergeSort fun x y => !(ltOf cmpPt) y x).toArray os).heap[g]? = some (.cells (putCells id 0 (cellsP (sortP ps)).toArray cur) 24 (0, 0)) := by
   unfold sortWorldK putRowK putRow
   rw [flatP, heap_grow_old _ _ (by simp [mapBlock, Sort.ahead]; exact hlt)]
   simp only [mapBlock, Sort.ahead, Array.getElem?_modify, if_true]
   rw [hh]
   rfl
  refine ⟨rfl, ⟨rfl, rfl, rfl, ?_, ?_⟩, ?_, .inr ⟨g, cap, _, rfl, hg, hrow, hnc, hcm, ?_, ?_⟩⟩
  ·simp [sortWorldK, grow, putRowK, putRow, mapBlock, Sort.ahead]
  ·intro k hk hkg
   have hne : ¬ g = k := fun e => hkg (by subst e; rfl)
   unfold sortWorldK putRowK putRow
   rw [heap_grow_old _ _ (by simp [mapBlock, Sort.ahead]; exact hk)]
   simp only [mapBlock, Sort.ahead, Array.getElem?_modify, if_neg hne]
  ·rw [cellsP_len, hsl]
  ·simp [putCells, hcs]
  ·apply List.ext_getElem?
   intro i
   rw [List.getElem?_take]
   by_cases hi : i < ps.length * 2
   ·rw [if_pos hi]
    have h2 : (cellsP (sortP ps)).toArray[i]! = ((cellsP (sortP ps))[i]?).get! := by
     simp [getElem!_def]
     cases (cellsP (sortP ps))[i]? <;> rfl
    have h4 : i < (cellsP (sortP ps)).length := by rw [cellsP_len, hsl]; exact hi
    have h5 : i < cur.size := by omega
    simp only [putCells, Array.getElem?_toList, Array.getElem?_mapIdx, Nat.zero_le, Nat.zero_add, Nat.sub_zero, true_and, List.size_toArray, h4, if_true, id]
    rw [Array.getElem?_eq_getElem h5]
    simp [h4]
   ·rw [if_neg hi, List.getElem?_eq_none (by rw [cellsP_len, hsl]; omega)]
end
theorem Sort_call {id : Nat} {st : St} {K : SV → St → Prop} {n : Nat} {xs : List Value} {ps : List Pt} (hid : st.own id = some (.row 24 2 n xs)) (hn : n = ps.length) (hx : xs = cellsP ps) (hsz : ps.length < 4611686018427387904)
  (hK : K (.v (.tuple #[])) { st with ow := (id, some (.row 24 2 ps.length (cellsP (sortP ps)))) :: st.ow }) :
  VCall Tryz.prog 84 [.row id, .clo 85 [] []] st K := by
 subst hn; subst hx
 refine VCall.set (enters_of Tryz.func84 (by kernel_rfl) rfl) hid (fun y hy => oneP hy) (fun n₀ W v ρ hv hs => ?_) hK
 have := sort_exact hs hsz
 subst hv
 exact this
end Go.Proofs.YtdfhnemhkpplbaaGreatDoor
namespace Go.Proofs.YtdfhnemhkpplbaaGreatDoor
open Go Go.V Go.RowKit
def keepB (ps : List Pt) (i : Nat) : Bool := i == 0 || gp ps i != gp ps (i - 1)
def comp (ps : List Pt) (k : Nat) : List Pt := ((List.range k).filter (keepB ps)).map (gp ps)
def compactP (ps : List Pt) : List Pt := comp ps ps.length
theorem comp_succ (ps : List Pt) (k : Nat) : comp ps (k + 1) = if keepB ps k = true then comp ps k ++ [gp ps k] else comp ps k := by
 unfold comp
 rw [List.range_succ, List.filter_append]
 by_cases h : keepB ps k = true
 ·simp [h]
 ·simp [h]
theorem comp_len (ps : List Pt) : ∀ k, (comp ps k).length ≤ k
 | 0 => by simp [comp]
 | k + 1 => by
  have := comp_len ps k
  rw [comp_succ]
  split
  ·simp; omega
  ·omega
theorem comp_all (ps : List Pt) : ∀ k, k ≤ ps.length → (∀ j, j < k → keepB ps j = true) → comp ps k = ps.take k
 | 0, _, _ => by simp [comp]
 | k + 1, hk, h => by
  rw [comp_succ, if_pos (h k (by omega)), comp_all ps k (by omega) (fun j hj => h j (by omega))]
  have : gp ps k = ps[k] := by simp [gp, List.getD_eq_getElem?_getD, List.getElem?_eq_getElem (show k < ps.length by omega)]
  rw [this, List.take_append_getElem]
def midP (ps : List Pt) (j : Nat) : List Pt := comp ps j ++ ps.drop (comp ps j).length
theorem midP_len (ps : List Pt) {j : Nat} (h : j ≤ ps.length) : (midP ps j).length = ps.length := by
 have := comp_len ps j
 unfold midP; simp; omega
theorem midP_get (ps : List Pt) {j i : Nat} (h : (comp ps j).length ≤ i) : gp (midP ps j) i = gp ps i := by
 unfold gp midP
 simp only [List.getD_eq_getElem?_getD]
 rw [List.getElem?_append_right h, List.getElem?_drop]
 congr 2; omega
theorem midP_set (ps : List Pt) {j : Nat} (hj : j < ps.length) (hk : keepB ps j = true) : (midP ps j).set (comp ps j).length (gp ps j) = midP ps (j + 1) := by
 have := comp_len ps j
 unfold midP
 rw [comp_succ, if_pos hk, List.set_append_right _ _ (Nat.le_refl _), Nat.sub_self]
 have hlt : (comp ps j).length < ps.length := by omega
 rw [List.drop_eq_getElem_cons hlt, List.set_cons_zero]
 simp
theorem midP_skip (ps : List Pt) {j : Nat} (hk : keepB ps j = false) : midP ps j = midP ps (j + 1) := by
 unfold midP
 rw [comp_succ, if_neg (by rw [hk]; exact Bool.false_ne_true)]
theorem cellsP_put : ∀ (ys : List Pt) (i : Nat) (p : Pt), i < ys.length → rput (cellsP ys) (i * 2) [.int .i64 p.1, .int .i64 p.2] = cellsP (ys.set i p)
 | y :: ys, 0, p, _ => by simp [rput, cellsP]
 | y :: ys, i + 1, p, h => by
  have ih := cellsP_put ys i p (by simpa using h)
  have e : (i + 1) * 2 = i * 2 + 1 + 1 := by omega
  simp only [rput, cellsP, List.flatMap_cons, List.set_cons_succ, e, List.cons_append, List.nil_append, List.take_succ_cons, List.length_cons, List.length_nil] at ih ⊢
  rw [show i * 2 + 1 + 1 + (0 + 1 + 1) = i * 2 + (0 + 1 + 1) + 1 + 1 by omega, List.drop_succ_cons, List.drop_succ_cons, ih]
theorem cellsP_take (ys : List Pt) (k : Nat) : (cellsP ys).take (k * 2) = cellsP (ys.take k) := by
 induction ys generalizing k with
 | nil => simp [cellsP]
 | cons y ys ih =>
  cases k with
  | zero => simp [cellsP]
  | succ k =>
   have e : (k + 1) * 2 = k * 2 + 1 + 1 := by omega
   simp only [cellsP, List.flatMap_cons, List.take_succ_cons, e, List.cons_append, List.nil_append] at ih ⊢
   rw [ih]
theorem rput_take_off {xs ys : List Value} {off : Nat} (h : off ≤ xs.length) : (rput xs off ys).take off = xs.take off := by
 unfold rput
 rw [List.append_assoc, List.take_append_of_le_length (by simp; omega), List.take_take, Nat.min_self]
theorem compactP_short {ps : List Pt} (h : ps.length < 2) : compactP ps = ps := by
 match ps with
 | [] => rfl
 | [x] => rfl
theorem rowP_get (ys : List Pt) {i : Nat} (hi : i < ys.length) : ∀ j v, ([.int .i64 (gp ys i).1, .int .i64 (gp ys i).2] : List Value)[j]? = some v → (cellsP ys)[i * 2 + j]? = some v := by
 intro j v hv
 obtain ⟨g1, g2⟩ := cellsP_get ys i hi
 match j with
 | 0 => simp at hv; subst hv; rw [show i * 2 + 0 = 2 * i by omega]; exact g1
 | 1 => simp at hv; subst hv; rw [show i * 2 + 1 = 2 * i + 1 by omega]; exact g2
 | j + 2 => simp at hv
end Go.Proofs.YtdfhnemhkpplbaaGreatDoor
