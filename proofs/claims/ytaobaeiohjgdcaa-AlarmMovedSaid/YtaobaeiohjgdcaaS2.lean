/- Contract: the number of bits of one. -/
import Derived.Test.YtaobaeiohjgdcaaC5
import Derived.WalkKit
import Derived.Handy
import Derived.Lib.Hide
import Derived.WalkLawsBesides
import Derived.WalkSpells
namespace Go.Proofs.Ytaobaeiohjgdcaa
open Go Go.V Go.RowKit
set_option maxRecDepth 100000 in
set_option maxHeartbeats 1000000 in
theorem len64_one (w : World) : Calls Try.prog 127 #[.int .u64 1] w fun e w' => e = .returned (.int .i64 1) ∧ w' = w := by
  go_enter Try.func127, Try.ntmps127
  go_wp2
  go_ret
  exact ⟨by kernel_rfl, rfl⟩
set_option maxRecDepth 100000 in
set_option maxHeartbeats 1000000 in
theorem len_one_any (w : World) : Calls Try.prog 114 #[.int .u64 1] w fun e w' => e = .returned (.int .i64 1) ∧ w' = w := by
  go_enter Try.func114, Try.ntmps114
  go_wp2_with (go_at_call 127; refine (len64_one _).mono ?_; rintro e w' ⟨rfl, rfl⟩)
  go_ret
  exact ⟨by kernel_rfl, rfl⟩
theorem FnP.of_same {P : Program} {f : Nat} {args : List Value} {M : Mem} {vs : List Value} (he : Enters P f) (h : ∀ W, Calls P f args.toArray W fun e w' => e = .returned (ret vs) ∧ w' = W) : FnP P f args M vs :=
  ⟨he, fun W hW => (h W).mono fun e w' ⟨h1, h2⟩ => ⟨vs, M, h1, h2 ▸ Below.refl _ _, Mem.le_refl _, h2 ▸ hW, fun _ _ => rfl, rfl, rfl⟩⟩
theorem Len1_fn (M : Mem) : FnP Try.prog 114 [.int .u64 1] M [.int .i64 1] :=
  FnP.of_same (enters_of Try.func114 (by kernel_rfl) rfl) len_one_any
end Go.Proofs.Ytaobaeiohjgdcaa
