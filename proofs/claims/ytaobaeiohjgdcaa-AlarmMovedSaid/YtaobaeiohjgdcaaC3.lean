/- Contracts: places, comparisons. -/
import Derived.Test.YtaobaeiohjgdcaaC2
namespace Go.Proofs.Ytaobaeiohjgdcaa
open Go Go.V Go.RowKit
theorem bool1 {a b : Bool} (h : a = true ↔ b = true) : [Value.bool a] = [.bool b] := by
  cases a <;> cases b <;> simp_all
theorem Place_fn (x y : Int) (M : Mem) : FnP Try.prog 23 [pt x y] M [.bool (isCb x && isCb y)] := by
  refine Fn.of_vc cxOK Try.func23 rfl rfl rfl ?_
  repeat' (first | refine VIf.tt ?_ | refine VIf.ff ?_ | refine VIf.mk (fun _ => ?_) (fun _ => ?_) | refine VFact.mk ?_ trivial)
  all_goals (refine ⟨bool1 ?_, rfl⟩; simp only [isCb, Bool.and_eq_true, decide_eq_true_eq, decide_eq_false_iff_not, Bool.false_eq_true, false_iff] at *; omega)

theorem isPlace_fn (x y : Int) (M : Mem) (hx : i64r x) (hy : i64r y) : FnP Try.prog 54 [pt x y] M [.bool (isCb x && isCb y)] := by
  unfold i64r at *
  have wmin : IntKind.wrap .i64 (- -9223372036854775808) = -9223372036854775808 := by decide
  refine Fn.of_vc cxOK Try.func54 rfl rfl rfl ?_
  have neg : ∀ (z : Int) (K : Int → Prop), -9223372036854775808 ≤ z → z ≤ 9223372036854775807 → (z ≠ -9223372036854775808 → K (-z)) → (z = -9223372036854775808 → K (-9223372036854775808)) → VArith (-9223372036854775808) 9223372036854775807 .i64 (-z) K := by
    intro z K h1 h2 h3 h4
    by_cases hz : z = -9223372036854775808
    · repeat (first | refine VIf.tt ?_ | refine VIf.ff ?_)
      refine VArith.wr ?_
      rw [hz, wmin]; exact h4 hz
    · repeat (first | refine VIf.tt ?_ | refine VIf.ff ?_)
      exact VArith.ok (by omega) (by omega) (h3 hz)
  repeat' (first | refine neg _ _ (by omega) (by omega) (fun _ => ?_) (fun _ => ?_) | refine VIf.tt ?_ | refine VIf.ff ?_ | refine VIf.mk (fun _ => ?_) (fun _ => ?_) | refine VFact.mk ?_ trivial)
  all_goals (refine ⟨bool1 ?_, rfl⟩; simp only [isCb, Bool.and_eq_true, decide_eq_true_eq, decide_eq_false_iff_not, Bool.false_eq_true, false_iff] at *; simp only [List.foldl] at *; omega)

theorem isNaN_fn (x : Int) (M : Mem) : FnP Try.prog 111 [.int .i64 x] M [.bool false] := by
  refine Fn.of_vc cxOK Try.func111 rfl rfl rfl ?_
  repeat (first | refine VIf.tt ?_ | refine VIf.ff ?_)
  refine VFact.mk ⟨?_, rfl⟩ trivial
  simp
theorem Compare_fn (x y : Int) (M : Mem) : FnP Try.prog 90 [.int .i64 x, .int .i64 y] M [.int .i64 (cmpI x y)] := by
  refine Fn.of_vc cxOK Try.func90 rfl rfl rfl ?_
  repeat' (first | refine VFn.p (isNaN_fn _ _) ?_ | refine VIf.tt ?_ | refine VIf.ff ?_ | refine VIf.mk (fun _ => ?_) (fun _ => ?_) | refine VFact.mk ?_ trivial)
  all_goals (refine ⟨?_, rfl⟩; simp_all [cmpI] <;> omega)
theorem Cross_fn (ax ay bx by' cx cy : Int) (M : Mem) (h1 : isC ax) (h2 : isC ay) (h3 : isC bx) (h4 : isC by') (h5 : isC cx) (h6 : isC cy) :
    FnP Try.prog 43 [pt ax ay, pt bx by', pt cx cy] M [.int .i64 (cross ax ay bx by' cx cy)] := by
  unfold isC at *
  have p1 := bd12 (a := bx - ax) (b := cy - ay) (by omega) (by omega) (by omega) (by omega)
  have p2 := bd12 (a := by' - ay) (b := cx - ax) (by omega) (by omega) (by omega) (by omega)
  refine Fn.of_vc cxOK Try.func43 rfl rfl rfl ?_
  repeat' (first | refine VArith.ok (by omega) (by omega) ?_)
  repeat (first | refine VIf.tt ?_ | refine VIf.ff ?_)
  exact VFact.mk ⟨rfl, rfl⟩ trivial
end Go.Proofs.Ytaobaeiohjgdcaa
