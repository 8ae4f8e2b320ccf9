/- Contracts: the reference's Inside; Has, Box and ends of package hull. -/
import Derived.Test.YtaobaeiohjgdcaaC6
namespace Go.Proofs.Ytaobaeiohjgdcaa
open Go Go.V Go.RowKit
def allC (ps : List Pt) : Prop := ∀ k, k < ps.length → isC (gp ps k).1 ∧ isC (gp ps k).2
theorem allC_of {ps : List Pt} (h : validB ps = true) : allC ps := fun k hk => by
  simp only [validB, Bool.and_eq_true, all_iff, v1B, placeB] at h
  have := (h.1.2 k hk).1
  exact ⟨isCb_iff.1 this.1, isCb_iff.1 this.2⟩
theorem tmod_nat {i n : Nat} : ((i : Int) + 1).tmod (n : Int) = (((i + 1) % n : Nat) : Int) := by
  rw [Int.tmod_eq_emod_of_nonneg (by omega)]; simp
theorem Inside_fn (v : Value) (ps : List Pt) (x y : Int) (M : Mem) (hv : Pts M v ps) (hC : allC ps) (hx : isC x) (hy : isC y) : FnP Try.prog 40 [v, pt x y] M [.bool (hasB ps (x, y))] := by
  obtain ⟨ad, c, rfl⟩ := hv.shape
  obtain ⟨_, hm, hrd⟩ := hv.cellsOf
  unfold maxLen at hm
  refine Fn.of_vc cxOK Try.func40 rfl rfl rfl ?_
  have rd : ∀ k, k < ps.length → _ := hrd M (Mem.le_refl _)
  repeat (first | refine VIf.tt ?_ | refine VIf.ff ?_)
  refine VIf.mk (fun h1 => ?_) (fun h1 => ?_)
  · have h1 : ps.length = 1 := by simp at h1; omega
    obtain ⟨ad', rfl, hp0⟩ := rd 0 (by omega)
    repeat (first | refine VIf.tt ?_ | refine VIf.ff ?_)
    refine VDraw.go (by kernel_rfl) ?_
    repeat (first | refine VIf.tt ?_ | refine VIf.ff ?_)
    refine VIdx.mk ad' 0 rfl rfl (by omega) ?_
    repeat (first | refine VIf.tt ?_ | refine VIf.ff ?_)
    refine VReads.mk [.int .i64 (gp ps 0).1, .int .i64 (gp ps 0).2] rfl hp0 ?_
    repeat (first | refine VIf.tt ?_ | refine VIf.ff ?_)
    refine VFact.mk ⟨?_, rfl⟩ trivial
    simp only [hasB, h1, if_true]
    rfl
  have h1 : ps.length ≠ 1 := by simp at h1; omega
  repeat (first | refine VIf.tt ?_ | refine VIf.ff ?_)
  refine VIf.mk (fun h2 => ?_) (fun h2 => ?_)
  · have h2 : ps.length = 2 := by simp at h2; omega
    obtain ⟨ad', rfl, hp0⟩ := rd 0 (by omega)
    obtain ⟨_, he, hp1⟩ := rd 1 (by omega)
    cases he
    repeat (first | refine VIf.tt ?_ | refine VIf.ff ?_)
    refine VDraw.go (by kernel_rfl) ?_
    repeat (first | refine VIf.tt ?_ | refine VIf.ff ?_)
    refine VIdx.mk ad' 0 rfl rfl (by omega) ?_
    repeat (first | refine VIf.tt ?_ | refine VIf.ff ?_)
    refine VReads.mk [.int .i64 (gp ps 0).1, .int .i64 (gp ps 0).2] rfl hp0 ?_
    repeat (first | refine VIf.tt ?_ | refine VIf.ff ?_)
    refine VIdx.mk ad' 1 rfl rfl (by omega) ?_
    repeat (first | refine VIf.tt ?_ | refine VIf.ff ?_)
    refine VReads.mk [.int .i64 (gp ps 1).1, .int .i64 (gp ps 1).2] rfl hp1 ?_
    repeat (first | refine VIf.tt ?_ | refine VIf.ff ?_)
    refine VFn.p (Cross_fn _ _ _ _ _ _ _ (hC 0 (by omega)).1 (hC 0 (by omega)).2 (hC 1 (by omega)).1 (hC 1 (by omega)).2 hx hy) ?_
    repeat (first | refine VIf.tt ?_ | refine VIf.ff ?_)
    refine VIf.mk (fun hc => ?_) (fun hc => ?_)
    · repeat (first | refine VIf.tt ?_ | refine VIf.ff ?_)
      refine VIdx.mk ad' 0 rfl rfl (by omega) ?_
      repeat (first | refine VIf.tt ?_ | refine VIf.ff ?_)
      refine VReads.mk [.int .i64 (gp ps 0).1, .int .i64 (gp ps 0).2] rfl hp0 ?_
      repeat (first | refine VIf.tt ?_ | refine VIf.ff ?_)
      refine VIdx.mk ad' 1 rfl rfl (by omega) ?_
      repeat (first | refine VIf.tt ?_ | refine VIf.ff ?_)
      refine VReads.mk [.int .i64 (gp ps 1).1, .int .i64 (gp ps 1).2] rfl hp1 ?_
      repeat (first | refine VIf.tt ?_ | refine VIf.ff ?_)
      refine VFn.p (between_fn _ _ _ _ _ _ _) ?_
      repeat (first | refine VIf.tt ?_ | refine VIf.ff ?_)
      refine VFact.mk ⟨?_, rfl⟩ trivial
      have hc : crossP (gp ps 0) (gp ps 1) (x, y) = 0 := by simpa [crossP] using hc
      simp [hasB, h2, hc]
    · repeat (first | refine VIf.tt ?_ | refine VIf.ff ?_)
      refine VFact.mk ⟨?_, rfl⟩ trivial
      have hc : ¬ crossP (gp ps 0) (gp ps 1) (x, y) = 0 := by simpa [crossP] using hc
      simp [hasB, h2, hc]
  have h2 : ps.length ≠ 2 := by simp at h2; omega
  repeat (first | refine VIf.tt ?_ | refine VIf.ff ?_)
  refine VCode.loop cxOK Nat (fun i => ⟨[(0, .v (.slice ad ps.length c)), (3, .box 0 0), (5, .v (.int .i64 ps.length)), (6, .v (.int .i64 i))], [(0, some (.box 39 [.v (.int .i64 x), .v (.int .i64 y)]))], 1, M, 56, ⟨fun _ => none, none, fun _ => none⟩⟩)
    (fun i => i ≤ ps.length ∧ ∀ j, j < i → sideB ps (x, y) j = true) (fun i => ps.length - i) 0 ⟨Nat.zero_le _, fun j hj => by omega⟩ (Wk.mk' id (by repeat' constructor) (by repeat' constructor) (injOK_id _) rfl rfl rfl) ?_
  rintro i ⟨hi, hz⟩ m
  repeat (first | refine VIf.tt ?_ | refine VIf.ff ?_)
  refine VIf.mk (fun hlt => ?_) (fun hge => ?_)
  · have hlt := lt_of_dec hlt
    have hs : (i + 1) % ps.length < ps.length := Nat.mod_lt _ (by omega)
    obtain ⟨ad', rfl, hpi⟩ := rd i hlt
    obtain ⟨_, he, hps⟩ := rd _ hs
    cases he
    repeat (first | refine VIf.tt ?_ | refine VIf.ff ?_)
    refine VDraw.go (by kernel_rfl) ?_
    repeat (first | refine VIf.tt ?_ | refine VIf.ff ?_)
    refine VIdx.mk ad' i rfl rfl hlt ?_
    repeat (first | refine VIf.tt ?_ | refine VIf.ff ?_)
    refine VReads.mk [.int .i64 (gp ps i).1, .int .i64 (gp ps i).2] rfl hpi ?_
    repeat (first | refine VIf.tt ?_ | refine VIf.ff ?_)
    refine VArith.ok (by first | omega | (simp only; omega)) (by first | omega | (simp only; omega)) ?_
    repeat (first | refine VIf.tt ?_ | refine VIf.ff ?_)
    refine VDiv.mk (by omega) ?_
    repeat (first | refine VIf.tt ?_ | refine VIf.ff ?_)
    refine VIdx.mk ad' _ rfl tmod_nat hs ?_
    repeat (first | refine VIf.tt ?_ | refine VIf.ff ?_)
    refine VReads.mk [.int .i64 (gp ps ((i + 1) % ps.length)).1, .int .i64 (gp ps ((i + 1) % ps.length)).2] rfl hps ?_
    repeat (first | refine VIf.tt ?_ | refine VIf.ff ?_)
    refine VFn.p (Cross_fn _ _ _ _ _ _ _ (hC i hlt).1 (hC i hlt).2 (hC _ hs).1 (hC _ hs).2 hx hy) ?_
    repeat (first | refine VIf.tt ?_ | refine VIf.ff ?_)
    refine VIf.mk (fun hc => ?_) (fun hc => ?_)
    · repeat (first | refine VIf.tt ?_ | refine VIf.ff ?_)
      refine VFact.mk ⟨?_, rfl⟩ trivial
      have hc := of_decide_eq_true hc
      have : sideB ps (x, y) i = false := decide_eq_false (Int.not_le.2 hc)
      simp [hasB, h1, h2, all_false hlt this]
    · repeat (first | refine VIf.tt ?_ | refine VIf.ff ?_)
      refine VArith.ok (by first | omega | (simp only; omega)) (by first | omega | (simp only; omega)) ?_
      have hc := of_decide_eq_false hc
      exact ⟨i + 1, ⟨hlt, stepI hz (decide_eq_true (Int.not_lt.1 hc))⟩, (by first | omega | (simp only; omega)), (Wk.mk' id (by repeat' constructor) (by repeat' constructor) (injOK_id _) rfl rfl rfl)⟩
  · have : i = ps.length := by have := ge_of_dec hge; omega
    subst this
    repeat (first | refine VIf.tt ?_ | refine VIf.ff ?_)
    refine VFact.mk ⟨?_, rfl⟩ trivial
    simp only [hasB, h1, h2, if_false, all_true hz]
def loB (g : Pt → Int) (ps : List Pt) : Int := ps.foldl (fun a p => min a (g p)) (g (gp ps 0))
def hiB (g : Pt → Int) (ps : List Pt) : Int := ps.foldl (fun a p => max a (g p)) (g (gp ps 0))
theorem take_step {α β : Type} (f : β → α → β) (b : β) (l : List α) (d : α) {i : Nat} (h : i < l.length) : (l.take (i + 1)).foldl f b = f ((l.take i).foldl f b) (l.getD i d) := by
  rw [List.take_add_one, List.foldl_append]
  simp [h]
theorem ends_fn (v : Value) (ps : List Pt) (fid : Nat) (g : Pt → Int) (M : Mem) (hv : Pts M v ps) (hn : 1 ≤ ps.length) (hg : ∀ i, i < ps.length → ∀ M', FnP Try.prog fid [ptv (gp ps i)] M' [.int .i64 (g (gp ps i))]) : FnP Try.prog 68 [v, .func (.func fid) #[] #[]] M [.int .i64 (loB g ps), .int .i64 (hiB g ps)] := by
  obtain ⟨ad, c, rfl⟩ := hv.shape
  obtain ⟨_, hm, hrd⟩ := hv.cellsOf
  unfold maxLen at hm
  refine Fn.of_vc cxOK Try.func68 rfl rfl rfl ?_
  have rd : ∀ k, k < ps.length → _ := hrd M (Mem.le_refl _)
  obtain ⟨ad', rfl, hp0⟩ := rd 0 (by omega)
  repeat (first | refine VIf.tt ?_ | refine VIf.ff ?_)
  refine VDraw.go (by kernel_rfl) ?_
  repeat (first | refine VIf.tt ?_ | refine VIf.ff ?_)
  refine VIdx.mk ad' 0 rfl rfl (by omega) ?_
  repeat (first | refine VIf.tt ?_ | refine VIf.ff ?_)
  refine VReads.mk [.int .i64 (gp ps 0).1, .int .i64 (gp ps 0).2] rfl hp0 ?_
  repeat (first | refine VIf.tt ?_ | refine VIf.ff ?_)
  refine VIdx.mk ad' 0 rfl rfl (by omega) ?_
  repeat (first | refine VIf.tt ?_ | refine VIf.ff ?_)
  refine VReads.mk [.int .i64 (gp ps 0).1, .int .i64 (gp ps 0).2] rfl hp0 ?_
  repeat (first | refine VIf.tt ?_ | refine VIf.ff ?_)
  refine VFn.p (hg 0 (by omega) _) ?_
  repeat (first | refine VIf.tt ?_ | refine VIf.ff ?_)
  refine VFn.p (hg 0 (by omega) _) ?_
  repeat (first | refine VIf.tt ?_ | refine VIf.ff ?_)
  refine VCode.loop cxOK Nat (fun i => ⟨[(1, .v (.func (.func fid) #[] #[])), (6, .v (.int .i64 ((ps.take i).foldl (fun a p => min a (g p)) (g (gp ps 0))))), (7, .v (.int .i64 ((ps.take i).foldl (fun a p => max a (g p)) (g (gp ps 0))))), (20, .v (.slice (some ad') ps.length c)), (21, .v (.int .i64 ps.length)), (22, .v (.int .i64 i))], [], 0, M, 39, ⟨fun _ => none, none, fun _ => none⟩⟩)
    (fun i => i ≤ ps.length) (fun i => ps.length - i) 0 (Nat.zero_le _) (Wk.mk' id (by repeat' constructor) (by repeat' constructor) (injOK_id _) rfl rfl rfl) ?_
  rintro i hi m
  repeat (first | refine VIf.tt ?_ | refine VIf.ff ?_)
  refine VIf.mk (fun hlt => ?_) (fun hge => ?_)
  · have hlt := lt_of_dec hlt
    obtain ⟨_, he, hpi⟩ := rd i hlt
    cases he
    repeat (first | refine VIf.tt ?_ | refine VIf.ff ?_)
    refine VIdx.mk ad' i rfl rfl hlt ?_
    repeat (first | refine VIf.tt ?_ | refine VIf.ff ?_)
    refine VReads.mk [.int .i64 (gp ps i).1, .int .i64 (gp ps i).2] rfl hpi ?_
    repeat (first | refine VIf.tt ?_ | refine VIf.ff ?_)
    refine VDraw.go (by kernel_rfl) ?_
    repeat (first | refine VIf.tt ?_ | refine VIf.ff ?_)
    refine VFn.p (hg i hlt _) ?_
    repeat (first | refine VIf.tt ?_ | refine VIf.ff ?_)
    refine VFn.p (hg i hlt _) ?_
    repeat (first | refine VIf.tt ?_ | refine VIf.ff ?_)
    refine VArith.ok (by first | omega | (simp only; omega)) (by first | omega | (simp only; omega)) ?_
    refine ⟨i + 1, hlt, (by first | omega | (simp only; omega)), ?_⟩
    dsimp only
    rw [take_step _ _ ps (0, 0) hlt, take_step _ _ ps (0, 0) hlt]
    exact (Wk.mk' id (by repeat' constructor) (by repeat' constructor) (injOK_id _) rfl rfl rfl)
  · have : i = ps.length := by have := ge_of_dec hge; omega
    subst this
    repeat (first | refine VIf.tt ?_ | refine VIf.ff ?_)
    refine VFact.mk ⟨?_, rfl⟩ trivial
    rw [List.take_length]
    rfl
theorem Box1_fn (p : Pt) (M : Mem) : FnP Try.prog 69 [ptv p] M [.int .i64 p.1] := by
  refine Fn.of_vc cxOK Try.func69 rfl rfl rfl ?_
  repeat (first | refine VIf.tt ?_ | refine VIf.ff ?_)
  exact VFact.mk ⟨rfl, rfl⟩ trivial
theorem Box2_fn (p : Pt) (M : Mem) : FnP Try.prog 70 [ptv p] M [.int .i64 p.2] := by
  refine Fn.of_vc cxOK Try.func70 rfl rfl rfl ?_
  repeat (first | refine VIf.tt ?_ | refine VIf.ff ?_)
  exact VFact.mk ⟨rfl, rfl⟩ trivial
def boxLo (ps : List Pt) : Pt := (loB (·.1) ps, loB (·.2) ps)
def boxHi (ps : List Pt) : Pt := (hiB (·.1) ps, hiB (·.2) ps)
theorem Box_fn (v : Value) (ps : List Pt) (M : Mem) (hv : Pts M v ps) (hi64 : i64P ps) : V.Fn Try.prog 34 [v] M fun rs _ => rs = if validB ps = true then [ptv (boxLo ps), ptv (boxHi ps), .int .i64 0] else [pt 0 0, pt 0 0, .int .i64 1] := by
  refine Fn.of_vc cxOK Try.func34 rfl rfl rfl ?_
  repeat (first | refine VIf.tt ?_ | refine VIf.ff ?_)
  refine VFn.mk _ (Valid_fn v ps M hv hi64) ?_
  rintro rs M' hM rfl
  repeat (first | refine VIf.tt ?_ | refine VIf.ff ?_)
  refine VIf.mk (fun hV => ?_) (fun hV => ?_)
  · repeat (first | refine VIf.tt ?_ | refine VIf.ff ?_)
    refine VDraw.go (by kernel_rfl) ?_
    have := bn1 hV
    repeat (first | refine VIf.tt ?_ | refine VIf.ff ?_)
    refine VFact.mk rfl ?_
    repeat (first | refine VIf.tt ?_ | refine VIf.ff ?_)
    refine VFact.mk ?_ trivial
    rw [this]; rfl
  · have hV := bn2 hV
    have hn : 1 ≤ ps.length := by simp only [validB, Bool.and_eq_true, decide_eq_true_eq] at hV; omega
    repeat (first | refine VIf.tt ?_ | refine VIf.ff ?_)
    refine VFn.p (ends_fn v ps _ (·.1) _ (hv.le hM) hn (fun i _ M' => Box1_fn _ M')) ?_
    repeat (first | refine VIf.tt ?_ | refine VIf.ff ?_)
    refine VFn.p (ends_fn v ps _ (·.2) _ (hv.le hM) hn (fun i _ M' => Box2_fn _ M')) ?_
    repeat (first | refine VIf.tt ?_ | refine VIf.ff ?_)
    refine VDraw.go (by kernel_rfl) ?_
    repeat (first | refine VIf.tt ?_ | refine VIf.ff ?_)
    refine VFact.mk rfl ?_
    repeat (first | refine VIf.tt ?_ | refine VIf.ff ?_)
    refine VFact.mk ?_ trivial
    rw [hV]; rfl
end Go.Proofs.Ytaobaeiohjgdcaa
