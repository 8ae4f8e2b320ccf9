/- Contracts: cmp.Or, hull.compare, hull.sides. -/
import Derived.Test.YtaobaeiohjgdcaaC3
namespace Go.Proofs.Ytaobaeiohjgdcaa
open Go Go.V Go.RowKit
def Ints (M : Mem) (v : Value) (xs : List Int) : Prop := SlAt M 1 v xs.length (xs.map (Value.int .i64))

theorem Or_fn (v : Value) (xs : List Int) (M : Mem) (hv : Ints M v xs) : FnP Try.prog 89 [v] M [.int .i64 (orL xs)] := by
  obtain ⟨ad, c, rfl, hc, hm, hl, h1, hcell⟩ := hv
  refine Fn.of_vc cxOK Try.func89 rfl rfl rfl ?_
  repeat (first | refine VIf.tt ?_ | refine VIf.ff ?_)
  refine VCode.loop cxOK Nat
    (fun i => ⟨[(3, .v (.int .i64 0)), (6, .v (.slice ad xs.length c)), (7, .v (.int .i64 xs.length)), (8, .v (.int .i64 i))], [], 0, M, 18, ⟨fun _ => none, none, fun _ => none⟩⟩)
    (fun i => i ≤ xs.length ∧ ∀ j, j < i → xs.getD j 0 = 0) (fun i => xs.length - i) 0 ⟨Nat.zero_le _, fun j hj => by omega⟩ ?_ ?_
  · exact Wk.mk' id ⟨⟨rfl, rfl⟩, ⟨rfl, rfl⟩, ⟨rfl, rfl⟩, ⟨rfl, rfl⟩, trivial⟩ trivial trivial rfl rfl rfl
  rintro i ⟨hi, hz⟩ m
  repeat (first | refine VIf.tt ?_ | refine VIf.ff ?_)
  refine VIf.mk (fun hlt => ?_) (fun hge => ?_)
  · have hlt : i < xs.length := by simpa using hlt
    obtain ⟨ad', rfl, hrd⟩ := hcell (by omega)
    repeat (first | refine VIf.tt ?_ | refine VIf.ff ?_)
    refine VIdx.mk ad' i rfl rfl hlt ?_
    repeat (first | refine VIf.tt ?_ | refine VIf.ff ?_)
    refine VRead.mk (.int .i64 (xs.getD i 0)) ?_ ?_
    · have := hrd i (.int .i64 (xs.getD i 0)) (by simp [hlt])
      simpa using this
    repeat (first | refine VIf.tt ?_ | refine VIf.ff ?_)
    refine VIf.mk (fun hne => ?_) (fun heq => ?_)
    · repeat (first | refine VIf.tt ?_ | refine VIf.ff ?_)
      refine VFact.mk ⟨?_, rfl⟩ trivial
      rw [← orL_drop xs i hz, List.drop_eq_getElem_cons hlt]
      have : xs.getD i 0 ≠ 0 := by simpa using hne
      have e : xs.getD i 0 = xs[i] := by simp [hlt]
      rw [e] at this ⊢
      simp [orL, this]
    · repeat (first | refine VIf.tt ?_ | refine VIf.ff ?_)
      refine VArith.ok (by omega) (by unfold maxLen at hm; omega) ?_
      refine ⟨i + 1, ⟨hlt, fun j hj => ?_⟩, by omega, Wk.mk' id ⟨⟨rfl, rfl⟩, ⟨rfl, rfl⟩, ⟨rfl, rfl⟩, ⟨rfl, rfl⟩, trivial⟩ trivial trivial rfl rfl rfl⟩
      by_cases hji : j = i
      · subst hji; simpa using heq
      · exact hz j (by omega)
  · have hge : i = xs.length := by
      have : ¬ ((i : Int) < (xs.length : Int)) := by simpa using hge
      omega
    subst hge
    repeat (first | refine VIf.tt ?_ | refine VIf.ff ?_)
    refine VFact.mk ⟨?_, rfl⟩ trivial
    rw [← orL_drop xs _ hz]
    simp [orL]

theorem sides_fn (ad : Option Addr) (n c : Nat) (M : Mem) : V.Fn Try.prog 56 [.slice ad n c] M fun rs M' => ∃ B, rs = [.func (.func 91) #[] #[.pointer (some ⟨B, 0, none⟩)]] ∧ M' B = some (.cells #[.slice ad n c] 24 (0, 0)) := by
  refine Fn.of_vc cxOK Try.func56 rfl rfl rfl ?_
  repeat (first | refine VIf.tt ?_ | refine VIf.ff ?_)
  refine VFzB.mk fun x B M' hle hB => ?_
  repeat (first | refine VIf.tt ?_ | refine VIf.ff ?_)
  exact VFact.mk ⟨B, rfl, hB⟩ trivial

theorem compare_fn (ax ay bx by' : Int) (M : Mem) : V.Fn Try.prog 55 [pt ax ay, pt bx by'] M fun rs _ => rs = [.int .i64 (cmpP ax ay bx by')] := by
  refine Fn.of_vc cxOK Try.func55 rfl rfl rfl ?_
  repeat (first | refine VIf.tt ?_ | refine VIf.ff ?_)
  refine VDraw.go (by kernel_rfl) ?_
  repeat (first | refine VIf.tt ?_ | refine VIf.ff ?_)
  refine VFn.p (Compare_fn _ _ _) ?_
  repeat (first | refine VIf.tt ?_ | refine VIf.ff ?_)
  refine VFn.p (Compare_fn _ _ _) ?_
  repeat (first | refine VIf.tt ?_ | refine VIf.ff ?_)
  refine VFz.mk fun x B M' hle hx => ?_
  repeat (first | refine VIf.tt ?_ | refine VIf.ff ?_)
  refine VFn.p (Or_fn x [cmpI ax bx, cmpI ay by'] _ hx) ?_
  repeat (first | refine VIf.tt ?_ | refine VIf.ff ?_)
  refine VFact.mk ?_ trivial
  simp [orL, cmpP]
  by_cases h : cmpI ax bx = 0 <;> by_cases h' : cmpI ay by' = 0 <;> simp [h, h']
end Go.Proofs.Ytaobaeiohjgdcaa
