/- Data in memory; the iterator over the sides. -/
import Derived.Test.YtaobaeiohjgdcaaC1
namespace Go.Proofs.Ytaobaeiohjgdcaa
open Go Go.V Go.RowKit
def cellsP (ps : List Pt) : List Value := ps.flatMap fun p => [.int .i64 p.1, .int .i64 p.2]
def Pts (M : Mem) (v : Value) (ps : List Pt) : Prop := SlAt M 2 v ps.length (cellsP ps)
def ptv (p : Pt) : Value := pt p.1 p.2
def sidesL (ps : List Pt) : List (List Value) := (List.range ps.length).map fun i => [ptv (ps.getD i (0,0)), ptv (ps.getD ((i + 1) % ps.length) (0,0))]
theorem cellsP_get : ∀ (ps : List Pt) (i : Nat), i < ps.length → (cellsP ps)[2 * i]? = some (.int .i64 (ps.getD i (0,0)).1) ∧ (cellsP ps)[2 * i + 1]? = some (.int .i64 (ps.getD i (0,0)).2)
  | [], i, h => by cases h
  | p :: ps, 0, _ => ⟨rfl, rfl⟩
  | p :: ps, i + 1, h => by
    have := cellsP_get ps i (by simpa using h)
    have e1 : 2 * (i + 1) = 2 * i + 1 + 1 := by omega
    rw [e1]
    simpa [cellsP] using this
theorem box1 {M : Mem} {B : Nat} {v : Value} {t : TypeId} (h : M B = some (.cells #[v] t (0, 0))) : M.cell ⟨B, 0, none⟩ = some v := by
  simp [Mem.cell, h]

theorem sides_iter (M : Mem) (B : Nat) (v : Value) (ps : List Pt) (hB : M B = some (.cells #[v] 24 (0, 0))) (hv : Pts M v ps) :
    Iter Try.prog 91 #[.pointer (some ⟨B, 0, none⟩)] M (sidesL ps) := by
  obtain ⟨ad, c, rfl, hc, hm, hl, h1, hcell⟩ := hv
  refine Iter.of_vc cxOK Try.func91 rfl rfl rfl rfl fun l => ?_
  repeat (first | refine VIf.tt ?_ | refine VIf.ff ?_)
  refine VRead.mk _ (box1 hB) ?_
  repeat (first | refine VIf.tt ?_ | refine VIf.ff ?_)
  refine VCode.loopG cxOK (fun m => m = fun _ => none) rfl Nat
    (fun i => ⟨[(0, .v (.func (.yield l) #[] #[])), (1, .v (.pointer (some ⟨B, 0, none⟩))), (5, .v (.slice ad ps.length c)), (6, .v (.int .i64 ps.length)), (7, .v (.int .i64 i))], [], 0, M, 25, ⟨fun _ => none, some (l, (sidesL ps).drop i), fun _ => none⟩⟩)
    (fun i => i ≤ ps.length) (fun i => ps.length - i) 0 (Nat.zero_le _) ?_ ?_
  · exact Wk.mk' id ⟨⟨rfl, rfl⟩, ⟨rfl, rfl⟩, ⟨rfl, rfl⟩, ⟨rfl, rfl⟩, ⟨rfl, rfl⟩, trivial⟩ trivial trivial rfl rfl rfl
  rintro i hi m rfl
  repeat (first | refine VIf.tt ?_ | refine VIf.ff ?_)
  refine VIf.mk (fun hlt => ?_) (fun hge => ?_)
  · have hlt : i < ps.length := by simpa using hlt
    obtain ⟨ad', rfl, hrd⟩ := hcell (by omega)
    have hpt : ∀ k, k < ps.length → ∀ j v, [Value.int .i64 (ps.getD k (0,0)).1, .int .i64 (ps.getD k (0,0)).2][j]? = some v → M.cell ((ad'.add (k * 2)).add j) = some v := by
      intro k hk j v hj
      obtain ⟨g1, g2⟩ := cellsP_get ps k hk
      rw [show (ad'.add (k * 2)).add j = ad'.add (2 * k + j) by rw [Addr.add_add]; congr 1; omega]
      refine hrd _ _ ?_
      match j, hj with
      | 0, hj => rw [← hj]; exact g1
      | 1, hj => rw [← hj]; exact g2
      | j + 2, hj => simp at hj
    repeat (first | refine VIf.tt ?_ | refine VIf.ff ?_)
    refine VIdx.mk ad' i rfl rfl hlt ?_
    repeat (first | refine VIf.tt ?_ | refine VIf.ff ?_)
    refine VReads.mk [.int .i64 (ps.getD i (0,0)).1, .int .i64 (ps.getD i (0,0)).2] rfl (hpt i hlt) ?_
    repeat (first | refine VIf.tt ?_ | refine VIf.ff ?_)
    refine VDraw.go (by kernel_rfl) ?_
    have hmod : (i + 1) % ps.length < ps.length := Nat.mod_lt _ (by omega)
    repeat (first | refine VIf.tt ?_ | refine VIf.ff ?_)
    refine VRead.mk _ (box1 hB) ?_
    conv => whnf
    repeat (first | refine VIf.tt ?_ | refine VIf.ff ?_)
    refine VArith.ok (by omega) (by unfold maxLen at hm; omega) ?_
    repeat (first | refine VIf.tt ?_ | refine VIf.ff ?_)
    refine VRead.mk _ (box1 hB) ?_
    conv => whnf
    repeat (first | refine VIf.tt ?_ | refine VIf.ff ?_)
    refine VDiv.mk (by omega) ?_
    repeat (first | refine VIf.tt ?_ | refine VIf.ff ?_)
    refine VIdx.mk ad' ((i + 1) % ps.length) rfl ?_ hmod ?_
    · rw [Int.tmod_eq_emod_of_nonneg (by omega)]; simp
    repeat (first | refine VIf.tt ?_ | refine VIf.ff ?_)
    refine VReads.mk [.int .i64 (ps.getD ((i + 1) % ps.length) (0,0)).1, .int .i64 (ps.getD ((i + 1) % ps.length) (0,0)).2] rfl (hpt _ hmod) ?_
    repeat (first | refine VIf.tt ?_ | refine VIf.ff ?_)
    refine VYield.mk ((sidesL ps).drop (i + 1)) ?_ ?_ ?_
    · simp only [Gh.mk.injEq, and_true, true_and, Option.some.injEq, Prod.mk.injEq]
      rw [List.drop_eq_getElem_cons (by simpa [sidesL] using hlt)]
      simp [sidesL, ptv, pt]
    · refine VIf.ff ?_
      repeat (first | refine VIf.tt ?_ | refine VIf.ff ?_)
      refine VArith.ok (by omega) (by unfold maxLen at hm; omega) ?_
      exact ⟨rfl, i + 1, hlt, by omega, Wk.mk' id ⟨⟨rfl, rfl⟩, ⟨rfl, rfl⟩, ⟨rfl, rfl⟩, ⟨rfl, rfl⟩, ⟨rfl, rfl⟩, trivial⟩ trivial trivial rfl rfl rfl⟩
    · refine VIf.tt ?_
      exact VEnd.stop rfl
  · have hge : i = ps.length := by
      have : ¬ ((i : Int) < (ps.length : Int)) := by simpa using hge
      omega
    subst hge
    exact VEnd.all (by simp [sidesL])
end Go.Proofs.Ytaobaeiohjgdcaa
