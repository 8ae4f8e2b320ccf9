/- Contracts of the leaf functions of hull and of the reference: part a. -/
import Derived.Test.YtaobaeiohjgdcaaTy
import Derived.Test.YtaobaeiohjgdcaaVq
import Derived.Test.YtaobaeiohjgdcaaD0
namespace Go.Proofs.Ytaobaeiohjgdcaa
open Go Go.V Go.RowKit
def pt (x y : Int) : Value := .agg #[.int .i64 x, .int .i64 y]
theorem mul_bd {a b : Int} (M N : Int) (h1 : -M ≤ a) (h2 : a ≤ M) (h3 : -N ≤ b) (h4 : b ≤ N) (hM : 0 ≤ M) (hN : 0 ≤ N) : -(M * N) ≤ a * b ∧ a * b ≤ M * N := by
  have key : ∀ {a b : Int}, -M ≤ a → a ≤ M → -N ≤ b → b ≤ N → a * b ≤ M * N := by
    intro a b h1 h2 h3 h4
    by_cases ha : 0 ≤ a
    · by_cases hb : 0 ≤ b
      · exact Int.mul_le_mul h2 h4 hb hM
      · have : a * b ≤ 0 := Int.mul_nonpos_of_nonneg_of_nonpos ha (by omega)
        have := Int.mul_nonneg hM hN
        omega
    · by_cases hb : 0 ≤ b
      · have : a * b ≤ 0 := Int.mul_nonpos_of_nonpos_of_nonneg (by omega) hb
        have := Int.mul_nonneg hM hN
        omega
      · have := Int.mul_le_mul (a := -a) (b := -b) (c := M) (d := N) (by omega) (by omega) (by omega) hM
        rw [Int.neg_mul_neg] at this
        exact this
  have e1 := key h1 h2 h3 h4
  have e2 := key (a := -a) (b := b) (by omega) (by omega) h3 h4
  rw [Int.neg_mul] at e2
  omega
theorem bd12 {a b : Int} (h1 : -1000000 ≤ a) (h2 : a ≤ 1000000) (h3 : -1000000 ≤ b) (h4 : b ≤ 1000000) : -1000000000000 ≤ a * b ∧ a * b ≤ 1000000000000 := by
  have := mul_bd 1000000 1000000 h1 h2 h3 h4 (by omega) (by omega)
  omega

theorem turn_fn (ax ay bx by' cx' cy : Int) (M : Mem) (h1 : isC ax) (h2 : isC ay) (h3 : isC bx) (h4 : isC by') (h5 : isC cx') (h6 : isC cy) :
    FnP Try.prog 57 [pt ax ay, pt bx by', pt cx' cy] M [.int .i64 (cross ax ay bx by' cx' cy)] := by
  unfold isC at *
  have p1 := bd12 (a := bx - ax) (b := cy - ay) (by omega) (by omega) (by omega) (by omega)
  have p2 := bd12 (a := by' - ay) (b := cx' - ax) (by omega) (by omega) (by omega) (by omega)
  refine Fn.of_vc cxOK Try.func57 rfl rfl rfl ?_
  repeat (first | refine VIf.tt ?_ | refine VIf.ff ?_)
  refine VArith.ok (by omega) (by omega) ?_
  repeat (first | refine VIf.tt ?_ | refine VIf.ff ?_)
  refine VArith.ok (by omega) (by omega) ?_
  repeat (first | refine VIf.tt ?_ | refine VIf.ff ?_)
  refine VArith.ok (by omega) (by omega) ?_
  repeat (first | refine VIf.tt ?_ | refine VIf.ff ?_)
  refine VArith.ok (by omega) (by omega) ?_
  repeat (first | refine VIf.tt ?_ | refine VIf.ff ?_)
  refine VArith.ok (by omega) (by omega) ?_
  repeat (first | refine VIf.tt ?_ | refine VIf.ff ?_)
  refine VArith.ok (by omega) (by omega) ?_
  repeat (first | refine VIf.tt ?_ | refine VIf.ff ?_)
  refine VArith.ok (by omega) (by omega) ?_
  repeat (first | refine VIf.tt ?_ | refine VIf.ff ?_)
  exact VFact.mk ⟨rfl, rfl⟩ trivial
end Go.Proofs.Ytaobaeiohjgdcaa
