/- Contracts: hull.Hull of one place; package mink's Shift. -/
import Derived.Test.YtaobaeiohjgdcaaC18
namespace Go.Proofs.Ytaobaeiohjgdcaa
open Go Go.V Go.RowKit
theorem IndexP_fn (v : Value) (ps : List Pt) (fid : Nat) (g : Pt → Bool) (M : Mem) (hv : Pts M v ps) (hg : ∀ i, i < ps.length → ∀ M', FnP Try.prog fid [ptv (gp ps i)] M' [.bool (g (gp ps i))]) :
    V.Fn Try.prog 94 [v, .func (.func fid) #[] #[]] M fun rs _ => ∃ k : Int, rs = [.int .i64 k] ∧ (0 ≤ k ↔ ps.any g = true) := by
  obtain ⟨ad, c, rfl⟩ := hv.shape
  obtain ⟨_, hm, hrd⟩ := hv.cellsOf
  unfold maxLen at hm
  refine Fn.of_vc cxOK Try.func94 rfl rfl rfl ?_
  repeat (first | refine VIf.tt ?_ | refine VIf.ff ?_)
  refine VCode.loop cxOK Nat (fun i => ⟨[(0, .v (.slice ad ps.length c)), (1, .v (.func (.func fid) #[] #[])), (7, .v (.int .i64 ps.length)), (8, .v (.int .i64 i))], [], 0, M, 19, ⟨fun _ => none, none, fun _ => none⟩⟩)
    (fun i => i ≤ ps.length ∧ ∀ j, j < i → g (gp ps j) = false) (fun i => ps.length - i) 0 ⟨Nat.zero_le _, fun j hj => by simp at hj⟩ (Wk.mk' id (by repeat' constructor) (by repeat' constructor) (injOK_id _) rfl rfl rfl) ?_
  rintro i ⟨hi, hz⟩ m
  repeat (first | refine VIf.tt ?_ | refine VIf.ff ?_)
  refine VIf.mk (fun hlt => ?_) (fun hge => ?_)
  · have hlt := lt_of_dec hlt
    obtain ⟨ad', ead, hpi⟩ := hrd M (Mem.le_refl _) i hlt
    repeat (first | refine VIf.tt ?_ | refine VIf.ff ?_)
    refine VIdx.mk ad' i ead rfl hlt ?_
    repeat (first | refine VIf.tt ?_ | refine VIf.ff ?_)
    refine VReads.mk [.int .i64 (gp ps i).1, .int .i64 (gp ps i).2] rfl hpi ?_
    repeat (first | refine VIf.tt ?_ | refine VIf.ff ?_)
    refine VFn.p (hg i hlt M) ?_
    repeat (first | refine VIf.tt ?_ | refine VIf.ff ?_)
    refine VIf.mk (fun hc => ?_) (fun hc => ?_)
    · repeat (first | refine VIf.tt ?_ | refine VIf.ff ?_)
      refine VFact.mk ⟨i, rfl, ?_⟩ trivial
      have := any_getD (0, 0) g ps hlt hc
      simp [this]
    · repeat (first | refine VIf.tt ?_ | refine VIf.ff ?_)
      refine VArith.ok (by first | omega | (simp only; omega)) (by first | omega | (simp only; omega)) ?_
      refine ⟨i + 1, ⟨hlt, fun j hj => ?_⟩, (by first | omega | (simp only; omega)), (Wk.mk' id (by repeat' constructor) (by repeat' constructor) (injOK_id _) rfl rfl rfl)⟩
      by_cases e : j = i
      · subst e; exact hc
      · exact hz j (by omega)
  · have : i = ps.length := by have := ge_of_dec hge; omega
    subst this
    repeat (first | refine VIf.tt ?_ | refine VIf.ff ?_)
    refine VFact.mk ⟨-1, rfl, ?_⟩ trivial
    have := any_none (0, 0) g ps hz
    simp [this]
theorem ContainsP_fn (v : Value) (ps : List Pt) (fid : Nat) (g : Pt → Bool) (M : Mem) (hv : Pts M v ps) (hg : ∀ i, i < ps.length → ∀ M', FnP Try.prog fid [ptv (gp ps i)] M' [.bool (g (gp ps i))]) :
    V.Fn Try.prog 62 [v, .func (.func fid) #[] #[]] M fun rs _ => rs = [.bool (ps.any g)] := by
  obtain ⟨ad, c, rfl⟩ := hv.shape
  refine Fn.of_vc cxOK Try.func62 rfl rfl rfl ?_
  repeat (first | refine VIf.tt ?_ | refine VIf.ff ?_)
  refine VFn.mk _ (IndexP_fn _ ps fid g M hv hg) ?_
  rintro rs M1 hM1 ⟨k, rfl, hk⟩
  repeat (first | refine VIf.tt ?_ | refine VIf.ff ?_)
  refine VFact.mk (bool1 ?_) trivial
  rw [← hk]; simp
theorem Hull1_fn (p : Pt) (h1 : i64r p.1) (h2 : i64r p.2) (M : Mem) : FnP Try.prog 63 [ptv p] M [.bool (!placeB p)] := by
  refine Fn.of_vc cxOK Try.func63 rfl rfl rfl ?_
  repeat (first | refine VIf.tt ?_ | refine VIf.ff ?_)
  refine VFn.p (isPlace_fn _ _ _ h1 h2) ?_
  repeat (first | refine VIf.tt ?_ | refine VIf.ff ?_)
  exact VFact.mk ⟨rfl, rfl⟩ trivial
theorem Clone_fn (v : Value) (ps : List Pt) (M : Mem) (hv : Pts M v ps) (hn : 1 ≤ ps.length) (hn' : ps.length ≤ 100000) : V.Fn Try.prog 95 [v] M fun rs M' => ∃ u, rs = [u] ∧ Pts M' u ps := by
  obtain ⟨ad, c, rfl⟩ := hv.shape
  obtain ⟨_, hm, hrd⟩ := hv.cellsOf
  obtain ⟨ad', rfl, _⟩ := hrd M (Mem.le_refl _) 0 (by omega)
  refine Fn.of_vc cxOK Try.func95 rfl rfl rfl ?_
  repeat (first | refine VIf.tt ?_ | refine VIf.ff ?_)
  refine VSl.mk ps.length (cellsP ps) hv ?_
  repeat (first | refine VIf.tt ?_ | refine VIf.ff ?_)
  refine VFact.mk (by simp only; omega) ?_
  repeat (first | refine VIf.tt ?_ | refine VIf.ff ?_)
  refine VFz.mk fun x B M' hle hx => ?_
  repeat (first | refine VIf.tt ?_ | refine VIf.ff ?_)
  refine VFact.mk ⟨x, rfl, ?_⟩ trivial
  have e : SlAt M' 2 x (0 + ps.length) ([] ++ cellsP ps) := hx
  rw [Nat.zero_add, List.nil_append] at e
  exact e
theorem insert1_fn (v : Value) (f : Nat) (M : Mem) : FnP Try.prog 118 [v, .int .i64 0, .int .i64 1, .func (.func f) #[] #[]] M [] := by
  refine Fn.of_vc cxOK Try.func118 rfl rfl rfl ?_
  repeat (first | refine VIf.tt ?_ | refine VIf.ff ?_)
  refine VArith.ok (by first | omega | (simp only; omega)) (by first | omega | (simp only; omega)) ?_
  repeat (first | refine VIf.tt ?_ | refine VIf.ff ?_)
  refine VCode.loop cxOK Unit (fun _ => ⟨[(2, .v (.int .i64 1)), (8, .v (.int .i64 1))], [], 0, M, 53, ⟨fun _ => none, none, fun _ => none⟩⟩) (fun _ => True) (fun _ => 0) () trivial (Wk.mk' id (by repeat' constructor) (by repeat' constructor) (injOK_id _) rfl rfl rfl) ?_
  rintro _ _ m
  repeat (first | refine VIf.tt ?_ | refine VIf.ff ?_)
  exact VFact.mk ⟨rfl, rfl⟩ trivial
theorem pdq1_fn (v : Value) (f : Nat) (l : Int) (M : Mem) : FnP Try.prog 113 [v, .int .i64 0, .int .i64 1, .int .i64 l, .func (.func f) #[] #[]] M [] := by
  refine Fn.of_vc cxOK Try.func113 rfl rfl rfl ?_
  repeat (first | refine VIf.tt ?_ | refine VIf.ff ?_)
  refine VCode.loop cxOK Unit (fun _ => ⟨[(0, .v v), (1, .v (.int .i64 0)), (2, .v (.int .i64 1)), (4, .v (.func (.func f) #[] #[]))], [], 0, M, 148, ⟨fun _ => none, none, fun _ => none⟩⟩) (fun _ => True) (fun _ => 0) () trivial (Wk.mk' id (by repeat' constructor) (by repeat' constructor) (injOK_id _) rfl rfl rfl) ?_
  rintro _ _ m
  repeat (first | refine VIf.tt ?_ | refine VIf.ff ?_)
  refine VArith.ok (by first | omega | (simp only; omega)) (by first | omega | (simp only; omega)) ?_
  repeat (first | refine VIf.tt ?_ | refine VIf.ff ?_)
  refine VFn.p (insert1_fn _ _ _) ?_
  repeat (first | refine VIf.tt ?_ | refine VIf.ff ?_)
  exact VFact.mk ⟨rfl, rfl⟩ trivial
end Go.Proofs.Ytaobaeiohjgdcaa
