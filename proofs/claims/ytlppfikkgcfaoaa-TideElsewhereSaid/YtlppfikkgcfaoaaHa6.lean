import Derived.Test.YtlppfikkgcfaoaaHa5
import Derived.WalkKit
import Derived.Handy
import Derived.Lib.Hide
import Derived.WalkLawsBesides
import Derived.WalkSpells
import Derived.Deep.RegionHeld3
import Derived.Deep.Draws
import Derived.Sort.Grow
import Derived.Shelf.SlSortCmp.NoneTotal
set_option linter.unusedVariables false
set_option linter.unusedSimpArgs false
/- Contracts of tide: the blocks of a rectangle. -/
namespace Go.Proofs.Ytlppfikkgcfaoaa
open Go Go.V Go.RowKit
def tdC (t : TideS) (v : Value) : Array Value := #[.int .i64 t.ver, .int .i64 t.fr, .int .i64 t.sl, .int .i64 t.rest.x, .int .i64 t.rest.y, .int .i64 t.rest.s, .int .i64 t.rest.ul, .int .i64 t.rest.uh, .int .i64 t.rest.vl, .int .i64 t.rest.vh, .int .i64 t.rest.hl, .int .i64 t.rest.hh, v]
theorem blocks_fn (t : TideS) (v : Value) (x1 y1 x2 y2 s : Int) (M : Mem) (hv : FlsV M v t.fl) : V.Fn Try.prog 50 [tdV t v, pt x1 y1, pt x2 y2, .int .i64 s] M fun rs M' => ∃ B1 B2 B0 B3,
    rs = [.func (.func 87) #[] #[.pointer (some ⟨B1, 0, none⟩), .pointer (some ⟨B2, 0, none⟩), .pointer (some ⟨B0, 0, none⟩), .pointer (some ⟨B3, 0, none⟩)]] ∧
    M' B1 = some (.cells #[.int .i64 x1, .int .i64 y1] 30 (0, 0)) ∧ M' B2 = some (.cells #[.int .i64 x2, .int .i64 y2] 30 (0, 0)) ∧ M' B0 = some (.cells (tdC t v) 28 (0, 0)) ∧ M' B3 = some (.cells #[.int .i64 s] 3 (0, 0)) := by
  obtain ⟨ad, c, rfl, hm, hrd⟩ := hv.get
  refine Fn.of_vc cxOK Try.func50 rfl rfl rfl ?_
  repeat (first | refine VIf.tt ?_ | refine VIf.ff ?_)
  refine VFzB.mk fun z1 B1 M1 hM1 hB1 => ?_
  repeat (first | refine VIf.tt ?_ | refine VIf.ff ?_)
  refine VFzB.mk fun z2 B2 M2 hM2 hB2 => ?_
  repeat (first | refine VIf.tt ?_ | refine VIf.ff ?_)
  refine VFzB.mk fun z3 B3 M3 hM3 hB3 => ?_
  repeat (first | refine VIf.tt ?_ | refine VIf.ff ?_)
  refine VFzB.mk fun z4 B4 M4 hM4 hB4 => ?_
  repeat (first | refine VIf.tt ?_ | refine VIf.ff ?_)
  exact VFact.mk ⟨B1, B2, B3, B4, rfl, hM4 _ _ (hM3 _ _ (hM2 _ _ hB1)), hM4 _ _ (hM3 _ _ hB2), hM4 _ _ hB3, hB4⟩ trivial
set_option maxRecDepth 20000 in
set_option maxHeartbeats 2000000 in
theorem blocks_iter (t : TideS) (v : Value) (x1 y1 x2 y2 s : Int) (M : Mem) (hv : FlsV M v t.fl) (ht : tideB t = true) (h1 : placeB (x1, y1) = true) (h2 : placeB (x2, y2) = true) (B1 B2 B0 B3 : Nat)
    (hB1 : M B1 = some (.cells #[.int .i64 x1, .int .i64 y1] 30 (0, 0))) (hB2 : M B2 = some (.cells #[.int .i64 x2, .int .i64 y2] 30 (0, 0))) (hB0 : M B0 = some (.cells (tdC t v) 28 (0, 0))) (hB3 : M B3 = some (.cells #[.int .i64 s] 3 (0, 0))) :
    Iter Try.prog 87 #[.pointer (some ⟨B1, 0, none⟩), .pointer (some ⟨B2, 0, none⟩), .pointer (some ⟨B0, 0, none⟩), .pointer (some ⟨B3, 0, none⟩)] M ((blkL t (x1 / 10000) (x2 / 10000) (y1 / 10000) (y2 / 10000) s).map fun f => [flV f]) := by
  simp only [placeB, Bool.and_eq_true] at h1 h2
  have a1 := isCb_bd h1.1
  have a2 := isCb_bd h1.2
  have a3 := isCb_bd h2.1
  have a4 := isCb_bd h2.2
  refine Iter.of_vc cxOK Try.func87 rfl rfl rfl rfl fun l => ?_
  repeat (first | refine VIf.tt ?_ | refine VIf.ff ?_)
  refine VDraw.code ?_
  repeat (first | refine VIf.tt ?_ | refine VIf.ff ?_)
  refine VCode.drawsG cxOK [] (by kernel_rfl) (fun m => m = fun _ => none) Unit
    (fun _ => ⟨[(0, .v (.func (.yield l) #[] #[])), (3, .v (.pointer (some ⟨B0, 0, none⟩))), (4, .v (.pointer (some ⟨B3, 0, none⟩))), (6, .box 0 0), (7, .box 1 0)],
      [(1, some (.box 30 [.v (.int .i64 (x2 / 10000)), .v (.int .i64 (y2 / 10000))])), (0, some (.box 30 [.v (.int .i64 (x1 / 10000)), .v (.int .i64 (y1 / 10000))]))], 2, M, 38, ⟨fun _ => none, some (l, (blkL t (x1 / 10000) (x2 / 10000) (y1 / 10000) (y2 / 10000) s).map fun f => [flV f]), fun _ => none⟩⟩)
    (fun _ => True) ?_ ?_
  · repeat (first | refine VIf.tt ?_ | refine VIf.ff ?_)
    refine VReads.mk [.int .i64 x1, .int .i64 y1] rfl (fun j v hj => cellAt hB1 j (by simpa using hj)) ?_
    repeat (first | refine VIf.tt ?_ | refine VIf.ff ?_)
    refine VReads.mk [.int .i64 x2, .int .i64 y2] rfl (fun j v hj => cellAt hB2 j (by simpa using hj)) ?_
    have b1 := block_fn x1 y1 M (by omega) (by omega) (by omega) (by omega)
    have b2 := block_fn x2 y2 M (by omega) (by omega) (by omega) (by omega)
    refine VBoth.mk ?_ ?_
    · repeat (first | refine VIf.tt ?_ | refine VIf.ff ?_)
      refine VFn.p b1 ?_
      repeat (first | refine VIf.tt ?_ | refine VIf.ff ?_)
      refine VFact.mk (Mem.le_refl _) ?_
      refine VBoth.mk ?_ ?_
      · repeat (first | refine VIf.tt ?_ | refine VIf.ff ?_)
        refine VFn.p b2 ?_
        repeat (first | refine VIf.tt ?_ | refine VIf.ff ?_)
        refine VFact.mk (Mem.le_refl _) ?_
        refine VBoth.mk ?_ ?_
        · repeat (first | refine VIf.tt ?_ | refine VIf.ff ?_)
          refine VFact.mk (Mem.le_refl _) ?_
          repeat (first | refine VIf.tt ?_ | refine VIf.ff ?_)
          refine VFact.mk (Mem.le_refl _) ?_
          repeat (first | refine VIf.tt ?_ | refine VIf.ff ?_)
          refine VFact.mk (Mem.le_refl _) ?_
          repeat (first | refine VIf.tt ?_ | refine VIf.ff ?_)
          refine VFact.mk (Mem.le_refl _) ?_
          exact ⟨rfl, (), trivial, (Wk.mk' id (by repeat' constructor) (by repeat' constructor) (injOK_id _) rfl rfl rfl)⟩
        · repeat (first | refine VIf.tt ?_ | refine VIf.ff ?_)
          refine VFact.mk (Mem.le_refl _) ?_
          repeat (first | refine VIf.tt ?_ | refine VIf.ff ?_)
          refine VFact.mk (Mem.le_refl _) ?_
          repeat (first | refine VIf.tt ?_ | refine VIf.ff ?_)
          refine VFact.mk (Mem.le_refl _) ?_
          repeat (first | refine VIf.tt ?_ | refine VIf.ff ?_)
          refine VFact.mk (Mem.le_refl _) ?_
          exact ⟨rfl, (), trivial, Wk.mk' (fun k => if k = 0 then 1 else if k = 1 then 0 else k) (by repeat' constructor) (by repeat' constructor) (by simp [injOK]) rfl rfl rfl⟩
      · refine VBoth.mk ?_ ?_
        · repeat (first | refine VIf.tt ?_ | refine VIf.ff ?_)
          refine VFact.mk (Mem.le_refl _) ?_
          refine VBoth.mk ?_ ?_
          · repeat (first | refine VIf.tt ?_ | refine VIf.ff ?_)
            refine VFn.p b2 ?_
            repeat (first | refine VIf.tt ?_ | refine VIf.ff ?_)
            refine VFact.mk (Mem.le_refl _) ?_
            repeat (first | refine VIf.tt ?_ | refine VIf.ff ?_)
            refine VFact.mk (Mem.le_refl _) ?_
            repeat (first | refine VIf.tt ?_ | refine VIf.ff ?_)
            refine VFact.mk (Mem.le_refl _) ?_
            repeat (first | refine VIf.tt ?_ | refine VIf.ff ?_)
            refine VFact.mk (Mem.le_refl _) ?_
            exact ⟨rfl, (), trivial, (Wk.mk' id (by repeat' constructor) (by repeat' constructor) (injOK_id _) rfl rfl rfl)⟩
          · repeat (first | refine VIf.tt ?_ | refine VIf.ff ?_)
            refine VFact.mk (Mem.le_refl _) ?_
            repeat (first | refine VIf.tt ?_ | refine VIf.ff ?_)
            refine VFn.p b2 ?_
            repeat (first | refine VIf.tt ?_ | refine VIf.ff ?_)
            refine VFact.mk (Mem.le_refl _) ?_
            repeat (first | refine VIf.tt ?_ | refine VIf.ff ?_)
            refine VFact.mk (Mem.le_refl _) ?_
            repeat (first | refine VIf.tt ?_ | refine VIf.ff ?_)
            refine VFact.mk (Mem.le_refl _) ?_
            exact ⟨rfl, (), trivial, (Wk.mk' id (by repeat' constructor) (by repeat' constructor) (injOK_id _) rfl rfl rfl)⟩
        · repeat (first | refine VIf.tt ?_ | refine VIf.ff ?_)
          refine VFact.mk (Mem.le_refl _) ?_
          refine VBoth.mk ?_ ?_
          · repeat (first | refine VIf.tt ?_ | refine VIf.ff ?_)
            refine VFn.p b2 ?_
            repeat (first | refine VIf.tt ?_ | refine VIf.ff ?_)
            refine VFact.mk (Mem.le_refl _) ?_
            repeat (first | refine VIf.tt ?_ | refine VIf.ff ?_)
            refine VFact.mk (Mem.le_refl _) ?_
            repeat (first | refine VIf.tt ?_ | refine VIf.ff ?_)
            refine VFact.mk (Mem.le_refl _) ?_
            repeat (first | refine VIf.tt ?_ | refine VIf.ff ?_)
            refine VFact.mk (Mem.le_refl _) ?_
            exact ⟨rfl, (), trivial, Wk.mk' (fun k => if k = 0 then 1 else if k = 1 then 0 else k) (by repeat' constructor) (by repeat' constructor) (by simp [injOK]) rfl rfl rfl⟩
          · repeat (first | refine VIf.tt ?_ | refine VIf.ff ?_)
            refine VFact.mk (Mem.le_refl _) ?_
            repeat (first | refine VIf.tt ?_ | refine VIf.ff ?_)
            refine VFn.p b2 ?_
            repeat (first | refine VIf.tt ?_ | refine VIf.ff ?_)
            refine VFact.mk (Mem.le_refl _) ?_
            repeat (first | refine VIf.tt ?_ | refine VIf.ff ?_)
            refine VFact.mk (Mem.le_refl _) ?_
            repeat (first | refine VIf.tt ?_ | refine VIf.ff ?_)
            refine VFact.mk (Mem.le_refl _) ?_
            exact ⟨rfl, (), trivial, Wk.mk' (fun k => if k = 0 then 1 else if k = 1 then 0 else k) (by repeat' constructor) (by repeat' constructor) (by simp [injOK]) rfl rfl rfl⟩
    · refine VBoth.mk ?_ ?_
      · repeat (first | refine VIf.tt ?_ | refine VIf.ff ?_)
        refine VFact.mk (Mem.le_refl _) ?_
        refine VBoth.mk ?_ ?_
        · repeat (first | refine VIf.tt ?_ | refine VIf.ff ?_)
          refine VFn.p b1 ?_
          repeat (first | refine VIf.tt ?_ | refine VIf.ff ?_)
          refine VFact.mk (Mem.le_refl _) ?_
          refine VBoth.mk ?_ ?_
          · repeat (first | refine VIf.tt ?_ | refine VIf.ff ?_)
            refine VFn.p b2 ?_
            repeat (first | refine VIf.tt ?_ | refine VIf.ff ?_)
            refine VFact.mk (Mem.le_refl _) ?_
            repeat (first | refine VIf.tt ?_ | refine VIf.ff ?_)
            refine VFact.mk (Mem.le_refl _) ?_
            repeat (first | refine VIf.tt ?_ | refine VIf.ff ?_)
            refine VFact.mk (Mem.le_refl _) ?_
            repeat (first | refine VIf.tt ?_ | refine VIf.ff ?_)
            refine VFact.mk (Mem.le_refl _) ?_
            exact ⟨rfl, (), trivial, (Wk.mk' id (by repeat' constructor) (by repeat' constructor) (injOK_id _) rfl rfl rfl)⟩
          · repeat (first | refine VIf.tt ?_ | refine VIf.ff ?_)
            refine VFact.mk (Mem.le_refl _) ?_
            repeat (first | refine VIf.tt ?_ | refine VIf.ff ?_)
            refine VFn.p b2 ?_
            repeat (first | refine VIf.tt ?_ | refine VIf.ff ?_)
            refine VFact.mk (Mem.le_refl _) ?_
            repeat (first | refine VIf.tt ?_ | refine VIf.ff ?_)
            refine VFact.mk (Mem.le_refl _) ?_
            repeat (first | refine VIf.tt ?_ | refine VIf.ff ?_)
            refine VFact.mk (Mem.le_refl _) ?_
            exact ⟨rfl, (), trivial, (Wk.mk' id (by repeat' constructor) (by repeat' constructor) (injOK_id _) rfl rfl rfl)⟩
        · repeat (first | refine VIf.tt ?_ | refine VIf.ff ?_)
          refine VFact.mk (Mem.le_refl _) ?_
          repeat (first | refine VIf.tt ?_ | refine VIf.ff ?_)
          refine VFn.p b1 ?_
          repeat (first | refine VIf.tt ?_ | refine VIf.ff ?_)
          refine VFact.mk (Mem.le_refl _) ?_
          repeat (first | refine VIf.tt ?_ | refine VIf.ff ?_)
          refine VFn.p b2 ?_
          repeat (first | refine VIf.tt ?_ | refine VIf.ff ?_)
          refine VFact.mk (Mem.le_refl _) ?_
          repeat (first | refine VIf.tt ?_ | refine VIf.ff ?_)
          refine VFact.mk (Mem.le_refl _) ?_
          repeat (first | refine VIf.tt ?_ | refine VIf.ff ?_)
          refine VFact.mk (Mem.le_refl _) ?_
          exact ⟨rfl, (), trivial, (Wk.mk' id (by repeat' constructor) (by repeat' constructor) (injOK_id _) rfl rfl rfl)⟩
      · repeat (first | refine VIf.tt ?_ | refine VIf.ff ?_)
        refine VFact.mk (Mem.le_refl _) ?_
        refine VBoth.mk ?_ ?_
        · repeat (first | refine VIf.tt ?_ | refine VIf.ff ?_)
          refine VFn.p b1 ?_
          repeat (first | refine VIf.tt ?_ | refine VIf.ff ?_)
          refine VFact.mk (Mem.le_refl _) ?_
          refine VBoth.mk ?_ ?_
          · repeat (first | refine VIf.tt ?_ | refine VIf.ff ?_)
            refine VFn.p b2 ?_
            repeat (first | refine VIf.tt ?_ | refine VIf.ff ?_)
            refine VFact.mk (Mem.le_refl _) ?_
            repeat (first | refine VIf.tt ?_ | refine VIf.ff ?_)
            refine VFact.mk (Mem.le_refl _) ?_
            repeat (first | refine VIf.tt ?_ | refine VIf.ff ?_)
            refine VFact.mk (Mem.le_refl _) ?_
            repeat (first | refine VIf.tt ?_ | refine VIf.ff ?_)
            refine VFact.mk (Mem.le_refl _) ?_
            exact ⟨rfl, (), trivial, Wk.mk' (fun k => if k = 0 then 1 else if k = 1 then 0 else k) (by repeat' constructor) (by repeat' constructor) (by simp [injOK]) rfl rfl rfl⟩
          · repeat (first | refine VIf.tt ?_ | refine VIf.ff ?_)
            refine VFact.mk (Mem.le_refl _) ?_
            repeat (first | refine VIf.tt ?_ | refine VIf.ff ?_)
            refine VFn.p b2 ?_
            repeat (first | refine VIf.tt ?_ | refine VIf.ff ?_)
            refine VFact.mk (Mem.le_refl _) ?_
            repeat (first | refine VIf.tt ?_ | refine VIf.ff ?_)
            refine VFact.mk (Mem.le_refl _) ?_
            repeat (first | refine VIf.tt ?_ | refine VIf.ff ?_)
            refine VFact.mk (Mem.le_refl _) ?_
            exact ⟨rfl, (), trivial, Wk.mk' (fun k => if k = 0 then 1 else if k = 1 then 0 else k) (by repeat' constructor) (by repeat' constructor) (by simp [injOK]) rfl rfl rfl⟩
        · repeat (first | refine VIf.tt ?_ | refine VIf.ff ?_)
          refine VFact.mk (Mem.le_refl _) ?_
          repeat (first | refine VIf.tt ?_ | refine VIf.ff ?_)
          refine VFn.p b1 ?_
          repeat (first | refine VIf.tt ?_ | refine VIf.ff ?_)
          refine VFact.mk (Mem.le_refl _) ?_
          repeat (first | refine VIf.tt ?_ | refine VIf.ff ?_)
          refine VFn.p b2 ?_
          repeat (first | refine VIf.tt ?_ | refine VIf.ff ?_)
          refine VFact.mk (Mem.le_refl _) ?_
          repeat (first | refine VIf.tt ?_ | refine VIf.ff ?_)
          refine VFact.mk (Mem.le_refl _) ?_
          repeat (first | refine VIf.tt ?_ | refine VIf.ff ?_)
          refine VFact.mk (Mem.le_refl _) ?_
          exact ⟨rfl, (), trivial, Wk.mk' (fun k => if k = 0 then 1 else if k = 1 then 0 else k) (by repeat' constructor) (by repeat' constructor) (by simp [injOK]) rfl rfl rfl⟩
  rintro _ m rfl _
  repeat (first | refine VIf.tt ?_ | refine VIf.ff ?_)
  refine VCode.frz [6, 7] ?_
  repeat (first | refine VIf.tt ?_ | refine VIf.ff ?_)
  refine VFzB.mk fun z1 D1 N1 hN1 hD1 => ?_
  repeat (first | refine VIf.tt ?_ | refine VIf.ff ?_)
  refine VFzB.mk fun z2 D2 N2 hN2 hD2 => ?_
  have hD1 : N1 D1 = some (.cells #[.int .i64 (x1 / 10000), .int .i64 (y1 / 10000)] 30 (0, 0)) := hD1
  have hD2 : N2 D2 = some (.cells #[.int .i64 (x2 / 10000), .int .i64 (y2 / 10000)] 30 (0, 0)) := hD2
  have n2 := hN1.trans hN2
  repeat (first | refine VIf.tt ?_ | refine VIf.ff ?_)
  refine VCode.loopG cxOK (fun m => m = fun _ => none) rfl (Int × Mem)
    (fun (⟨y, M1⟩ : Int × Mem) => ⟨[(0, .v (.func (.yield l) #[] #[])), (3, .v (.pointer (some ⟨B0, 0, none⟩))), (4, .v (.pointer (some ⟨B3, 0, none⟩))), (6, .v (.pointer (some ⟨D1, 0, none⟩))), (7, .v (.pointer (some ⟨D2, 0, none⟩))), (8, .v (.int .i64 y))],
      [], 2, M1, 38, ⟨fun _ => none, some (l, (blkL t (x1 / 10000) (x2 / 10000) y (y2 / 10000) s).map fun f => [flV f]), fun _ => none⟩⟩)
    (fun s => N2.le s.2 ∧ -100 ≤ s.1 ∧ s.1 ≤ 100) (fun s => (y2 / 10000 + 1 - s.1).toNat) (y1 / 10000, N2) ⟨Mem.le_refl _, by first | omega | (simp only; omega), by first | omega | (simp only; omega)⟩ (Wk.mk' id (by repeat' constructor) (by repeat' constructor) (injOK_id _) rfl rfl rfl) ?_
  rintro ⟨y, M1⟩ ⟨hM1, hy1, hy2⟩ m rfl
  have hM1' : N2.le M1 := hM1
  have hM1 : M.le M1 := n2.trans hM1'
  have rd2 : ∀ M', M1.le M' → ∀ (j : Nat) u, (#[Value.int .i64 (x2 / 10000), .int .i64 (y2 / 10000)] : Array Value)[j]? = some u → M'.cell ((⟨D2, 0, none⟩ : Addr).add j) = some u := fun M' h j u hu => cellAt ((hM1'.trans h) _ _ hD2) j hu
  have rd1 : ∀ M', M1.le M' → ∀ (j : Nat) u, (#[Value.int .i64 (x1 / 10000), .int .i64 (y1 / 10000)] : Array Value)[j]? = some u → M'.cell ((⟨D1, 0, none⟩ : Addr).add j) = some u := fun M' h j u hu => cellAt (((hN2.trans hM1').trans h) _ _ hD1) j hu
  repeat (first | refine VIf.tt ?_ | refine VIf.ff ?_)
  refine VRead.mk _ (rd2 M1 (Mem.le_refl _) 1 _ rfl) ?_
  have hy1 : -100 ≤ y := hy1
  have hy2 : y ≤ 100 := hy2
  repeat (first | refine VIf.tt ?_ | refine VIf.ff ?_)
  refine VIf.mk (fun hle => ?_) (fun hgt => ?_)
  · have hle : y ≤ y2 / 10000 := of_decide_eq_true hle
    repeat (first | refine VIf.tt ?_ | refine VIf.ff ?_)
    refine VRead.mk _ (rd1 M1 (Mem.le_refl _) 0 _ rfl) ?_
    repeat (first | refine VIf.tt ?_ | refine VIf.ff ?_)
    refine VCode.loopG cxOK (fun m => m = fun _ => none) rfl (Int × Mem)
      (fun (⟨x, M2⟩ : Int × Mem) => ⟨[(0, .v (.func (.yield l) #[] #[])), (3, .v (.pointer (some ⟨B0, 0, none⟩))), (4, .v (.pointer (some ⟨B3, 0, none⟩))), (6, .v (.pointer (some ⟨D1, 0, none⟩))), (7, .v (.pointer (some ⟨D2, 0, none⟩))), (8, .v (.int .i64 y)), (9, .v (.int .i64 x))],
        [], 2, M2, 38, ⟨fun _ => none, some (l, (rowL t x (x2 / 10000) y s ++ blkL t (x1 / 10000) (x2 / 10000) (y + 1) (y2 / 10000) s).map fun f => [flV f]), fun _ => none⟩⟩)
      (fun s => M1.le s.2 ∧ -100 ≤ s.1 ∧ s.1 ≤ 100) (fun s => (x2 / 10000 + 1 - s.1).toNat) (x1 / 10000, M1) ⟨Mem.le_refl _, by first | omega | (simp only; omega), by first | omega | (simp only; omega)⟩ ?_ ?_
    · refine Wk.mk' id (by repeat' constructor) (by repeat' constructor) (injOK_id _) rfl rfl ?_
      show some (l, _) = some (l, _)
      rw [blk_cons hle]
    rintro ⟨x, M2⟩ ⟨hM2, hx1, hx2⟩ m rfl
    have hM2 : M1.le M2 := hM2
    have m2 := hM1.trans hM2
    have hx1 : -100 ≤ x := hx1
    have hx2 : x ≤ 100 := hx2
    repeat (first | refine VIf.tt ?_ | refine VIf.ff ?_)
    refine VRead.mk _ (rd2 M2 hM2 0 _ rfl) ?_
    repeat (first | refine VIf.tt ?_ | refine VIf.ff ?_)
    refine VIf.mk (fun hlx => ?_) (fun hgx => ?_)
    · have hlx : x ≤ x2 / 10000 := of_decide_eq_true hlx
      repeat (first | refine VIf.tt ?_ | refine VIf.ff ?_)
      refine VReads.mk (tdC t v).toList rfl (fun j u hj => cellAt (m2 _ _ hB0) j (by simpa using hj)) ?_
      repeat (first | refine VIf.tt ?_ | refine VIf.ff ?_)
      refine VRead.mk _ (box1 (m2 _ _ hB3)) ?_
      repeat (first | refine VIf.tt ?_ | refine VIf.ff ?_)
      refine VFn.mk _ (of_fn t v x y s M2 (hv.le m2) ht) ?_
      rintro rs M3 hM3 rfl
      repeat (first | refine VIf.tt ?_ | refine VIf.ff ?_)
      refine VYield.mk ((rowL t (x + 1) (x2 / 10000) y s ++ blkL t (x1 / 10000) (x2 / 10000) (y + 1) (y2 / 10000) s).map fun f => [flV f]) ?_ ?_ ?_
      · simp only [Gh.mk.injEq, and_true, true_and, Option.some.injEq, Prod.mk.injEq]
        rw [row_cons hlx]; rfl
      · refine VIf.ff ?_
        repeat (first | refine VIf.tt ?_ | refine VIf.ff ?_)
        refine VArith.ok (by first | omega | (simp only; omega)) (by first | omega | (simp only; omega)) ?_
        exact ⟨rfl, (x + 1, M3), ⟨hM2.trans hM3, by first | omega | (simp only; omega), by first | omega | (simp only; omega)⟩, by first | omega | (simp only; omega), (Wk.mk' id (by repeat' constructor) (by repeat' constructor) (injOK_id _) rfl rfl rfl)⟩
      · refine VIf.tt ?_
        exact VEnd.stop rfl
    · have hgx : ¬ x ≤ x2 / 10000 := of_decide_eq_false hgx
      repeat (first | refine VIf.tt ?_ | refine VIf.ff ?_)
      refine VArith.ok (by first | omega | (simp only; omega)) (by first | omega | (simp only; omega)) ?_
      refine ⟨rfl, (y + 1, M2), ⟨hM1'.trans hM2, by first | omega | (simp only; omega), by first | omega | (simp only; omega)⟩, by first | omega | (simp only; omega), ?_⟩
      refine Wk.mk' id (by repeat' constructor) (by repeat' constructor) (injOK_id _) rfl rfl ?_
      show some (l, _) = some (l, _)
      rw [row_nil (by omega)]; rfl
  · have hgt : ¬ y ≤ y2 / 10000 := of_decide_eq_false hgt
    exact VEnd.all (by rw [blk_nil (by omega)]; rfl)
end Go.Proofs.Ytlppfikkgcfaoaa

/- Contracts of span.Join and tide.join. -/
namespace Go.Proofs.Ytlppfikkgcfaoaa
open Go Go.V Go.RowKit
def spOK (p : Pt) : Prop := p.1 ≤ p.2 ∧ -1000000000000 ≤ p.1 ∧ p.2 ≤ 1000000000000
theorem spanOK_fn (p : Pt) (M : Mem) (h : spOK p) : FnP Try.prog 123 [.agg #[.int .i64 p.1, .int .i64 p.2]] M [.bool true] := by
  have := spanValid_fn p.1 p.2 M
  unfold spOK at h
  rw [decide_eq_true h] at this
  exact this
theorem valid1_fn (p : Pt) (M : Mem) (h : spOK p) : FnP Try.prog 127 [.agg #[.int .i64 p.1, .int .i64 p.2]] M [.bool false] := by
  refine Fn.of_vc cxOK Try.func127 rfl rfl rfl ?_
  repeat (first | refine VIf.tt ?_ | refine VIf.ff ?_)
  refine VFn.p (spanOK_fn p M h) ?_
  repeat (first | refine VIf.tt ?_ | refine VIf.ff ?_)
  exact VFact.mk ⟨rfl, rfl⟩ trivial
theorem spanIdx_fn (v : Value) (ps : List Pt) (M : Mem) (hv : Pts M v ps) (hok : ∀ i, i < ps.length → spOK (gp ps i)) : FnP Try.prog 133 [v, .func (.func 127) #[] #[]] M [.int .i64 (-1)] := by
  obtain ⟨ad, c, rfl⟩ := hv.shape
  obtain ⟨_, hm, hrd⟩ := hv.cellsOf
  unfold maxLen at hm
  refine Fn.of_vc cxOK Try.func133 rfl rfl rfl ?_
  repeat (first | refine VIf.tt ?_ | refine VIf.ff ?_)
  refine VCode.loop cxOK Nat (fun i => ⟨[(0, .v (.slice ad ps.length c)), (1, .v (.func (.func 127) #[] #[])), (7, .v (.int .i64 ps.length)), (8, .v (.int .i64 i))], [], 0, M, 19, ⟨fun _ => none, none, fun _ => none⟩⟩)
    (fun i => i ≤ ps.length) (fun i => ps.length - i) 0 (Nat.zero_le _) (Wk.mk' id (by repeat' constructor) (by repeat' constructor) (injOK_id _) rfl rfl rfl) ?_
  intro i hi m
  repeat (first | refine VIf.tt ?_ | refine VIf.ff ?_)
  refine VIf.mk (fun hlt => ?_) (fun hge => ?_)
  · have hlt : i < ps.length := lt_of_dec hlt
    obtain ⟨ad1, e1, r1⟩ := hrd M (Mem.le_refl _) i hlt
    repeat (first | refine VIf.tt ?_ | refine VIf.ff ?_)
    refine VIdx.mk ad1 i e1 rfl hlt ?_
    repeat (first | refine VIf.tt ?_ | refine VIf.ff ?_)
    refine VReads.mk [.int .i64 (gp ps i).1, .int .i64 (gp ps i).2] rfl r1 ?_
    repeat (first | refine VIf.tt ?_ | refine VIf.ff ?_)
    refine VFn.p (valid1_fn (gp ps i) M (hok i hlt)) ?_
    repeat (first | refine VIf.tt ?_ | refine VIf.ff ?_)
    repeat (first | refine VIf.tt ?_ | refine VIf.ff ?_)
    refine VArith.ok (by first | omega | (simp only; omega)) (by first | omega | (simp only; omega)) ?_
    exact ⟨i + 1, hlt, (by first | omega | (simp only; omega)), (Wk.mk' id (by repeat' constructor) (by repeat' constructor) (injOK_id _) rfl rfl rfl)⟩
  · repeat (first | refine VIf.tt ?_ | refine VIf.ff ?_)
    exact VFact.mk ⟨rfl, rfl⟩ trivial
theorem spanCont_fn (v : Value) (ps : List Pt) (M : Mem) (hv : Pts M v ps) (hok : ∀ i, i < ps.length → spOK (gp ps i)) : FnP Try.prog 126 [v, .func (.func 127) #[] #[]] M [.bool false] := by
  obtain ⟨ad, c, rfl⟩ := hv.shape
  refine Fn.of_vc cxOK Try.func126 rfl rfl rfl ?_
  repeat (first | refine VIf.tt ?_ | refine VIf.ff ?_)
  refine VFn.p (spanIdx_fn _ ps M hv hok) ?_
  repeat (first | refine VIf.tt ?_ | refine VIf.ff ?_)
  exact VFact.mk ⟨rfl, rfl⟩ trivial
theorem spansOK_fn (v : Value) (ps : List Pt) (M : Mem) (hv : Pts M v ps) (hok : ∀ i, i < ps.length → spOK (gp ps i)) : FnP Try.prog 112 [v] M [.bool true] := by
  obtain ⟨ad, c, rfl⟩ := hv.shape
  refine Fn.of_vc cxOK Try.func112 rfl rfl rfl ?_
  repeat (first | refine VIf.tt ?_ | refine VIf.ff ?_)
  refine VFn.p (spanCont_fn _ ps M hv hok) ?_
  repeat (first | refine VIf.tt ?_ | refine VIf.ff ?_)
  exact VFact.mk ⟨rfl, rfl⟩ trivial
def mnL (xs : List Int) (k : Nat) : Int := (xs.take k).foldl min (xs.getD 0 0)
def mxL (xs : List Int) (k : Nat) : Int := (xs.take k).foldl max (xs.getD 0 0)
theorem mn_step {xs : List Int} {k : Nat} (h : k < xs.length) : mnL xs (k + 1) = min (mnL xs k) (xs.getD k 0) := by
  unfold mnL
  rw [List.take_add_one, List.foldl_append]
  simp [h]
theorem mx_step {xs : List Int} {k : Nat} (h : k < xs.length) : mxL xs (k + 1) = max (mxL xs k) (xs.getD k 0) := by
  unfold mxL
  rw [List.take_add_one, List.foldl_append]
  simp [h]
theorem mn_one {xs : List Int} (h : 0 < xs.length) : mnL xs 1 = xs.getD 0 0 := by
  rw [mn_step h]; simp [mnL]
theorem mx_one {xs : List Int} (h : 0 < xs.length) : mxL xs 1 = xs.getD 0 0 := by
  rw [mx_step h]; simp [mxL]
theorem min_fn (v : Value) (xs : List Int) (M : Mem) (hv : Ints M v xs) (h0 : 0 < xs.length) : FnP Try.prog 128 [v] M [.int .i64 (mnL xs xs.length)] := by
  obtain ⟨ad, c, rfl, hc, hm, hl, h1, hcell⟩ := hv
  unfold maxLen at hm
  refine Fn.of_vc cxOK Try.func128 rfl rfl rfl ?_
  repeat (first | refine VIf.tt ?_ | refine VIf.ff ?_)
  refine VIf.mk (fun h => absurd (of_decide_eq_true h) (by omega)) (fun _ => ?_)
  obtain ⟨ad', ead, hrd⟩ := hcell (by omega)
  have rd : ∀ i, i < xs.length → M.cell (ad'.add (i * 1)) = some (.int .i64 (xs.getD i 0)) := fun i hi => by
    have := hrd i (.int .i64 (xs.getD i 0)) (by simp [hi])
    simpa using this
  repeat (first | refine VIf.tt ?_ | refine VIf.ff ?_)
  refine VIdx.mk ad' 0 ead rfl h0 ?_
  repeat (first | refine VIf.tt ?_ | refine VIf.ff ?_)
  refine VRead.mk _ (rd 0 h0) ?_
  repeat (first | refine VIf.tt ?_ | refine VIf.ff ?_)
  refine VCode.loop cxOK Nat (fun i => ⟨[(0, .v (.slice ad xs.length c)), (3, .v (.int .i64 (mnL xs i))), (4, .v (.int .i64 i))], [], 0, M, 25, ⟨fun _ => none, none, fun _ => none⟩⟩)
    (fun i => 1 ≤ i ∧ i ≤ xs.length) (fun i => xs.length - i) 1 ⟨Nat.le_refl _, h0⟩ ?_ ?_
  · rw [mn_one h0]; exact (Wk.mk' id (by repeat' constructor) (by repeat' constructor) (injOK_id _) rfl rfl rfl)
  rintro i ⟨hi1, hi⟩ m
  repeat (first | refine VIf.tt ?_ | refine VIf.ff ?_)
  refine VIf.mk (fun hlt => ?_) (fun hge => ?_)
  · have hlt : i < xs.length := lt_of_dec hlt
    repeat (first | refine VIf.tt ?_ | refine VIf.ff ?_)
    refine VIdx.mk ad' i ead rfl hlt ?_
    repeat (first | refine VIf.tt ?_ | refine VIf.ff ?_)
    refine VRead.mk _ (rd i hlt) ?_
    repeat (first | refine VIf.tt ?_ | refine VIf.ff ?_)
    refine VArith.ok (by first | omega | (simp only; omega)) (by first | omega | (simp only; omega)) ?_
    refine ⟨i + 1, ⟨by omega, hlt⟩, (by first | omega | (simp only; omega)), ?_⟩
    rw [mn_step hlt]; exact (Wk.mk' id (by repeat' constructor) (by repeat' constructor) (injOK_id _) rfl rfl rfl)
  · have : i = xs.length := by have := ge_of_dec hge; omega
    subst this
    repeat (first | refine VIf.tt ?_ | refine VIf.ff ?_)
    exact VFact.mk ⟨rfl, rfl⟩ trivial
theorem max_fn (v : Value) (xs : List Int) (M : Mem) (hv : Ints M v xs) (h0 : 0 < xs.length) : FnP Try.prog 129 [v] M [.int .i64 (mxL xs xs.length)] := by
  obtain ⟨ad, c, rfl, hc, hm, hl, h1, hcell⟩ := hv
  unfold maxLen at hm
  refine Fn.of_vc cxOK Try.func129 rfl rfl rfl ?_
  repeat (first | refine VIf.tt ?_ | refine VIf.ff ?_)
  refine VIf.mk (fun h => absurd (of_decide_eq_true h) (by omega)) (fun _ => ?_)
  obtain ⟨ad', ead, hrd⟩ := hcell (by omega)
  have rd : ∀ i, i < xs.length → M.cell (ad'.add (i * 1)) = some (.int .i64 (xs.getD i 0)) := fun i hi => by
    have := hrd i (.int .i64 (xs.getD i 0)) (by simp [hi])
    simpa using this
  repeat (first | refine VIf.tt ?_ | refine VIf.ff ?_)
  refine VIdx.mk ad' 0 ead rfl h0 ?_
  repeat (first | refine VIf.tt ?_ | refine VIf.ff ?_)
  refine VRead.mk _ (rd 0 h0) ?_
  repeat (first | refine VIf.tt ?_ | refine VIf.ff ?_)
  refine VCode.loop cxOK Nat (fun i => ⟨[(0, .v (.slice ad xs.length c)), (3, .v (.int .i64 (mxL xs i))), (4, .v (.int .i64 i))], [], 0, M, 25, ⟨fun _ => none, none, fun _ => none⟩⟩)
    (fun i => 1 ≤ i ∧ i ≤ xs.length) (fun i => xs.length - i) 1 ⟨Nat.le_refl _, h0⟩ ?_ ?_
  · rw [mx_one h0]; exact (Wk.mk' id (by repeat' constructor) (by repeat' constructor) (injOK_id _) rfl rfl rfl)
  rintro i ⟨hi1, hi⟩ m
  repeat (first | refine VIf.tt ?_ | refine VIf.ff ?_)
  refine VIf.mk (fun hlt => ?_) (fun hge => ?_)
  · have hlt : i < xs.length := lt_of_dec hlt
    repeat (first | refine VIf.tt ?_ | refine VIf.ff ?_)
    refine VIdx.mk ad' i ead rfl hlt ?_
    repeat (first | refine VIf.tt ?_ | refine VIf.ff ?_)
    refine VRead.mk _ (rd i hlt) ?_
    repeat (first | refine VIf.tt ?_ | refine VIf.ff ?_)
    refine VArith.ok (by first | omega | (simp only; omega)) (by first | omega | (simp only; omega)) ?_
    refine ⟨i + 1, ⟨by omega, hlt⟩, (by first | omega | (simp only; omega)), ?_⟩
    rw [mx_step hlt]; exact (Wk.mk' id (by repeat' constructor) (by repeat' constructor) (injOK_id _) rfl rfl rfl)
  · have : i = xs.length := by have := ge_of_dec hge; omega
    subst this
    repeat (first | refine VIf.tt ?_ | refine VIf.ff ?_)
    exact VFact.mk ⟨rfl, rfl⟩ trivial
theorem least_fn (v : Value) (xs : List Int) (lo hi : Int) (M : Mem) (hv : Ints M v xs) (h0 : 0 < xs.length) (hl : mnL xs xs.length = lo) (hh : mxL xs xs.length = hi) (hok : spOK (lo, hi)) : FnP Try.prog 113 [v] M [.agg #[.int .i64 lo, .int .i64 hi], .int .i64 0] := by
  have h1 := min_fn v xs M hv h0
  have h2 := max_fn v xs M hv h0
  rw [hl] at h1
  rw [hh] at h2
  obtain ⟨ad, c, rfl, _⟩ := hv
  refine Fn.of_vc cxOK Try.func113 rfl rfl rfl ?_
  repeat (first | refine VIf.tt ?_ | refine VIf.ff ?_)
  refine VFn.p h1 ?_
  repeat (first | refine VIf.tt ?_ | refine VIf.ff ?_)
  refine VFn.p h2 ?_
  repeat (first | refine VIf.tt ?_ | refine VIf.ff ?_)
  refine VFn.p (spanOK_fn (lo, hi) M hok) ?_
  repeat (first | refine VIf.tt ?_ | refine VIf.ff ?_)
  exact VFact.mk ⟨rfl, rfl⟩ trivial
theorem Join_fn (a b c d : Int) (M : Mem) (h1 : spOK (a, b)) (h2 : spOK (c, d)) : V.Fn Try.prog 88 [.agg #[.int .i64 a, .int .i64 b], .agg #[.int .i64 c, .int .i64 d]] M fun rs _ => rs = [.agg #[.int .i64 (min a c), .int .i64 (max b d)], .int .i64 0] := by
  refine Fn.of_vc cxOK Try.func88 rfl rfl rfl ?_
  repeat (first | refine VIf.tt ?_ | refine VIf.ff ?_)
  refine VFz.mk fun x B M1 hM1 hx => ?_
  have hx : Pts M1 x [(a, b), (c, d)] := hx
  repeat (first | refine VIf.tt ?_ | refine VIf.ff ?_)
  refine VFn.p (spansOK_fn x _ M1 hx fun i hi => ?_) ?_
  · match i, hi with
    | 0, _ => exact h1
    | 1, _ => exact h2
  repeat (first | refine VIf.tt ?_ | refine VIf.ff ?_)
  refine VFz.mk fun y B2 M2 hM2 hy => ?_
  have hy : Ints M2 y [a, b, c, d] := hy
  unfold spOK at h1 h2
  simp only at h1 h2
  repeat (first | refine VIf.tt ?_ | refine VIf.ff ?_)
  refine VFn.p (least_fn y [a, b, c, d] (min a c) (max b d) M2 hy (by simp) ?_ ?_ ?_) ?_
  · simp only [mnL, List.length_cons, List.length_nil, List.take, List.foldl, List.getD_cons_zero]; omega
  · simp only [mxL, List.length_cons, List.length_nil, List.take, List.foldl, List.getD_cons_zero]; omega
  · unfold spOK; simp only; omega
  repeat (first | refine VIf.tt ?_ | refine VIf.ff ?_)
  exact VFact.mk rfl trivial
theorem joinF_fn (a b : FlowS) (M : Mem) (h1 : bndB a = true) (h2 : bndB b = true) : V.Fn Try.prog 51 [flV a, flV b] M fun rs _ => rs = [flV (joinF a b)] := by
  simp only [bndB, spB, Bool.and_eq_true, decide_eq_true_eq] at h1 h2
  refine Fn.of_vc cxOK Try.func51 rfl rfl rfl ?_
  repeat (first | refine VIf.tt ?_ | refine VIf.ff ?_)
  refine VFn.mk _ (Join_fn a.ul a.uh b.ul b.uh M (by unfold spOK; simp only; omega) (by unfold spOK; simp only; omega)) ?_
  rintro rs M1 hM1 rfl
  repeat (first | refine VIf.tt ?_ | refine VIf.ff ?_)
  refine VFn.mk _ (Join_fn a.vl a.vh b.vl b.vh M1 (by unfold spOK; simp only; omega) (by unfold spOK; simp only; omega)) ?_
  rintro rs M2 hM2 rfl
  repeat (first | refine VIf.tt ?_ | refine VIf.ff ?_)
  refine VFn.mk _ (Join_fn a.hl a.hh b.hl b.hh M2 (by unfold spOK; simp only; omega) (by unfold spOK; simp only; omega)) ?_
  rintro rs M3 hM3 rfl
  repeat (first | refine VIf.tt ?_ | refine VIf.ff ?_)
  exact VFact.mk rfl trivial
end Go.Proofs.Ytlppfikkgcfaoaa

/- Contracts of tide: bounds of all that is ranged over. -/
namespace Go.Proofs.Ytlppfikkgcfaoaa
open Go Go.V Go.RowKit
set_option maxRecDepth 20000 in
set_option maxHeartbeats 2000000 in
theorem joined_fn (gf : Nat) (lb : Array Value) (fs : List FlowS) (M : Mem) (hit : Iter Try.prog gf lb M (fs.map fun f => [flV f])) (hne : fs ≠ []) (hb : ∀ f ∈ fs, bndB f = true) (hp : ∀ f ∈ fs, f.x = 0 ∧ f.y = 0 ∧ f.s = 0) :
    V.Fn Try.prog 49 [.func (.func gf) #[] lb, .func (.func 51) #[] #[]] M fun rs _ => ∃ f, rs = [flV f] ∧ IsJ (· ∈ fs) f := by
  refine Fn.of_vc cxOK Try.func49 rfl rfl rfl ?_
  repeat (first | refine VIf.tt ?_ | refine VIf.ff ?_)
  refine VCode.rangeB cxOK rfl hit (fun x hx => ?_) [(3, .box 0 0), (4, .box 1 0), (5, .box 2 0)] rfl (by kernel_rfl) (by kernel_rfl) (FlowS × Bool × Mem)
    (fun _ (⟨f, b, M1⟩ : FlowS × Bool × Mem) => ⟨[(3, .box 0 0), (4, .box 1 0), (5, .box 2 0)], [(2, some (.box 4 [.v (.bool b)])), (1, some (.box 25 [.v (.int .i64 f.x), .v (.int .i64 f.y), .v (.int .i64 f.s), .v (.int .i64 f.ul), .v (.int .i64 f.uh), .v (.int .i64 f.vl), .v (.int .i64 f.vh), .v (.int .i64 f.hl), .v (.int .i64 f.hh)])), (0, some (.box 84 [.v (.func (.func 51) #[] #[])]))], 3, M1, 16, ⟨fun _ => none, none, fun _ => none⟩⟩)
    (fun k s => M.le s.2.2 ∧ (s.2.1 = true → k = 0) ∧ (s.2.1 = false → IsJ (· ∈ fs.take k) s.1)) (zeroF, true, M) ⟨Mem.le_refl _, fun _ => rfl, fun h => by cases h⟩ ?_ (fun k s => ⟨rfl, rfl⟩) ?_ ?_
  · obtain ⟨f, _, rfl⟩ := List.mem_map.1 hx
    rfl
  · exact (Wk.mk' id (by repeat' constructor) (by repeat' constructor) (injOK_id _) rfl rfl rfl)
  · rintro k ⟨f, b, M1⟩ args ⟨hM1, hK, hJ⟩ hxs m q
    have hM1 : M.le M1 := hM1
    have hJ : b = false → IsJ (· ∈ fs.take k) f := hJ
    have hK : b = true → k = 0 := hK
    rw [List.getElem?_map] at hxs
    obtain ⟨g, hg, rfl⟩ : ∃ g, fs[k]? = some g ∧ [flV g] = args := by
      cases h : fs[k]? with
      | none => rw [h] at hxs; cases hxs
      | some g => rw [h] at hxs; exact ⟨g, rfl, by simpa using hxs⟩
    obtain ⟨hk, eg⟩ := List.getElem?_eq_some_iff.1 hg
    have hgm : g ∈ fs := by rw [← eg]; exact List.getElem_mem hk
    have htk : fs.take (k + 1) = fs.take k ++ [g] := by rw [List.take_add_one, hg]; rfl
    intro m'
    repeat (first | refine VIf.tt ?_ | refine VIf.ff ?_)
    refine VIf.mk (fun h0 => ?_) (fun h0 => ?_)
    · have h0 : k = 0 := hK h0
      subst h0
      refine ⟨(g, false, M1), ⟨hM1, (fun h => by cases h), fun _ => ?_⟩, (Wk.mk' id (by repeat' constructor) (by repeat' constructor) (injOK_id _) rfl rfl rfl)⟩
      show IsJ (· ∈ fs.take (0 + 1)) g
      rw [htk]
      obtain ⟨p1, p2, p3⟩ := hp g hgm
      exact (IsJ.one p1 p2 p3).congr fun x => by simp
    · have h0 : b = false := h0
      subst h0
      have hJ := hJ rfl
      repeat (first | refine VIf.tt ?_ | refine VIf.ff ?_)
      refine VFn.mk _ (joinF_fn f g M1 (hJ.bnd fun x hx => hb x (List.mem_of_mem_take hx)) (hb g hgm)) ?_
      rintro rs M2 hM2 rfl
      refine ⟨(joinF f g, false, M2), ⟨hM1.trans hM2, (fun h => by cases h), fun _ => ?_⟩, (Wk.mk' id (by repeat' constructor) (by repeat' constructor) (injOK_id _) rfl rfl rfl)⟩
      show IsJ (· ∈ fs.take (k + 1)) (joinF f g)
      rw [htk]
      obtain ⟨p1, p2, p3⟩ := hp g hgm
      exact (hJ.join (IsJ.one p1 p2 p3)).congr fun x => by simp
  · rintro ⟨f, b, M1⟩ m ⟨hM1, hK, hJ⟩
    repeat (first | refine VIf.tt ?_ | refine VIf.ff ?_)
    refine VFact.mk ⟨f, rfl, ?_⟩ trivial
    have hb0 : b = false := by
      cases b with
      | false => rfl
      | true => have := hK rfl; rw [List.length_map] at this; exact absurd (List.length_eq_zero_iff.1 this) hne
    have h := hJ hb0
    simp only [List.length_map, List.take_length] at h
    exact h
end Go.Proofs.Ytlppfikkgcfaoaa

/- Contracts of tide: Bound. -/
namespace Go.Proofs.Ytlppfikkgcfaoaa
open Go Go.V Go.RowKit
def joinL : List FlowS → FlowS
  | [] => zeroF
  | f :: l => l.foldl joinF f
theorem fold_isJ : ∀ (l : List FlowS) (S : FlowS → Prop) (f : FlowS), IsJ S f → (∀ g ∈ l, g.x = 0 ∧ g.y = 0 ∧ g.s = 0) → IsJ (fun x => S x ∨ x ∈ l) (l.foldl joinF f)
  | [], S, f, h, _ => h.congr fun x => by simp
  | g :: l, S, f, h, hp => by
    obtain ⟨p1, p2, p3⟩ := hp g List.mem_cons_self
    exact (fold_isJ l _ _ (h.join (IsJ.one p1 p2 p3)) fun g hg => hp g (List.mem_cons_of_mem _ hg)).congr fun x => by simp [or_assoc]
theorem joinL_isJ {l : List FlowS} (hne : l ≠ []) (hp : ∀ g ∈ l, g.x = 0 ∧ g.y = 0 ∧ g.s = 0) : IsJ (· ∈ l) (joinL l) := by
  cases l with
  | nil => exact absurd rfl hne
  | cons f l =>
    obtain ⟨p1, p2, p3⟩ := hp f List.mem_cons_self
    exact (fold_isJ l _ _ (IsJ.one p1 p2 p3) fun g hg => hp g (List.mem_cons_of_mem _ hg)).congr fun x => by simp
theorem blk_ne {t : TideS} {x1 x2 y1 y2 s : Int} (hx : x1 ≤ x2) (hy : y1 ≤ y2) : blkL t x1 x2 y1 y2 s ≠ [] := by
  rw [blk_cons hy, row_cons hx]; simp
theorem blk_all {t : TideS} (ht : tideB t = true) {x1 x2 y1 y2 s : Int} : ∀ g ∈ blkL t x1 x2 y1 y2 s, bndB g = true ∧ g.x = 0 ∧ g.y = 0 ∧ g.s = 0 := fun g hg => by
  obtain ⟨x, y, s', _, _, _, _, _, _, rfl⟩ := blk_mem.1 hg
  exact ⟨of_bnd ht _ _ _, rfl, rfl, rfl⟩
theorem clip_fn (t : TideS) (v : Value) (n : Int) (B0 : Nat) (M : Mem) (hB0 : M B0 = some (.cells (tdC t v) 28 (0, 0))) : FnP Try.prog 46 [.int .i64 n, .pointer (some ⟨B0, 0, none⟩)] M [.int .i64 (clipS t n)] := by
  refine Fn.of_vc cxOK Try.func46 rfl rfl rfl ?_
  repeat (first | refine VIf.tt ?_ | refine VIf.ff ?_)
  refine VRead.mk _ (cellAt hB0 2 rfl) ?_
  repeat (first | refine VIf.tt ?_ | refine VIf.ff ?_)
  exact VFact.mk ⟨rfl, rfl⟩ trivial
def bndF (t : TideS) (x1 y1 x2 y2 c1 c2 : Int) : List FlowS := (rng c1 c2).map fun s => joinL (blkL t x1 x2 y1 y2 s)
theorem bndF_cons {t : TideS} {x1 y1 x2 y2 c1 c2 : Int} (h : c1 ≤ c2) : bndF t x1 y1 x2 y2 c1 c2 = joinL (blkL t x1 x2 y1 y2 c1) :: bndF t x1 y1 x2 y2 (c1 + 1) c2 := by unfold bndF; rw [rng_cons h]; rfl
theorem bndF_nil {t : TideS} {x1 y1 x2 y2 c1 c2 : Int} (h : c2 < c1) : bndF t x1 y1 x2 y2 c1 c2 = [] := by unfold bndF; rw [rng_nil h]; rfl
theorem clip_bd {t : TideS} (ht : tideB t = true) (q : Int) : -1 ≤ clipS t q ∧ clipS t q ≤ 1000 := by
  have := (tide_get ht).1
  unfold clipS; omega
theorem clip_mono {t : TideS} {p q : Int} (h : p ≤ q) : clipS t p ≤ clipS t q := by unfold clipS; omega
set_option maxRecDepth 20000 in
set_option maxHeartbeats 2000000 in
theorem bound_iter (t : TideS) (v : Value) (x1 y1 x2 y2 n1 n2 : Int) (M : Mem) (hv : FlsV M v t.fl) (ht : tideB t = true) (h1 : placeB (x1, y1) = true) (h2 : placeB (x2, y2) = true) (hx : x1 ≤ x2) (hy : y1 ≤ y2) (hn : 0 ≤ n1 ∧ n1 ≤ n2 ∧ n2 ≤ 1000000000) (Bc Bf Bt Bu Bl Bh : Nat)
    (hBc : M Bc = some (.cells #[.func (.func 46) #[] #[.pointer (some ⟨Bt, 0, none⟩)]] 42 (0, 0))) (hBf : M Bf = some (.cells #[.int .i64 n1] 3 (0, 0))) (hBt : M Bt = some (.cells (tdC t v) 28 (0, 0))) (hBu : M Bu = some (.cells #[.int .i64 n2] 3 (0, 0)))
    (hBl : M Bl = some (.cells #[.int .i64 x1, .int .i64 y1] 30 (0, 0))) (hBh : M Bh = some (.cells #[.int .i64 x2, .int .i64 y2] 30 (0, 0))) :
    Iter Try.prog 47 #[.pointer (some ⟨Bc, 0, none⟩), .pointer (some ⟨Bf, 0, none⟩), .pointer (some ⟨Bt, 0, none⟩), .pointer (some ⟨Bu, 0, none⟩), .pointer (some ⟨Bl, 0, none⟩), .pointer (some ⟨Bh, 0, none⟩)] M
      ((bndF t (x1 / 10000) (y1 / 10000) (x2 / 10000) (y2 / 10000) (clipS t ((n1 - t.fr) / 3600)) (clipS t ((n2 - t.fr) / 3600))).map fun f => [flV f]) := by
  have ht1 := (tide_get ht).1
  refine Iter.of_vc cxOK Try.func47 rfl rfl rfl rfl fun l => ?_
  repeat (first | refine VIf.tt ?_ | refine VIf.ff ?_)
  refine VDraw.go (by kernel_rfl) ?_
  repeat (first | refine VIf.tt ?_ | refine VIf.ff ?_)
  refine VRead.mk _ (box1 hBc) ?_
  repeat (first | refine VIf.tt ?_ | refine VIf.ff ?_)
  refine VRead.mk _ (box1 hBf) ?_
  repeat (first | refine VIf.tt ?_ | refine VIf.ff ?_)
  refine VRead.mk _ (cellAt hBt 1 rfl) ?_
  repeat (first | refine VIf.tt ?_ | refine VIf.ff ?_)
  refine VArith.ok (by first | omega | (simp only; omega)) (by first | omega | (simp only; omega)) ?_
  repeat (first | refine VIf.tt ?_ | refine VIf.ff ?_)
  refine VFn.p (down_fn (n1 - t.fr) 3600 M (by omega) (by omega) (by omega) (by omega)) ?_
  repeat (first | refine VIf.tt ?_ | refine VIf.ff ?_)
  refine VFn.p (clip_fn t v _ Bt M hBt) ?_
  obtain ⟨c1, e1⟩ : ∃ c, clipS t ((n1 - t.fr) / 3600) = c := ⟨_, rfl⟩
  obtain ⟨c2, e2⟩ : ∃ c, clipS t ((n2 - t.fr) / 3600) = c := ⟨_, rfl⟩
  have g1 := clip_bd ht ((n1 - t.fr) / 3600)
  have g2 := clip_bd ht ((n2 - t.fr) / 3600)
  rw [e1] at g1
  rw [e2] at g2
  have hmono : ∀ {a b : Int}, a ≤ b → a / 10000 ≤ b / 10000 := fun h => by omega
  repeat (first | refine VIf.tt ?_ | refine VIf.ff ?_)
  refine VCode.loopG cxOK (fun m => m = fun _ => none) rfl (Int × Mem)
    (fun (⟨s, M1⟩ : Int × Mem) => ⟨[(0, .v (.func (.yield l) #[] #[])), (1, .v (.pointer (some ⟨Bc, 0, none⟩))), (2, .v (.pointer (some ⟨Bf, 0, none⟩))), (3, .v (.pointer (some ⟨Bt, 0, none⟩))), (4, .v (.pointer (some ⟨Bu, 0, none⟩))), (5, .v (.pointer (some ⟨Bl, 0, none⟩))), (6, .v (.pointer (some ⟨Bh, 0, none⟩))), (8, .v (.int .i64 s))],
      [], 0, M1, 36, ⟨fun _ => none, some (l, (bndF t (x1 / 10000) (y1 / 10000) (x2 / 10000) (y2 / 10000) s (clipS t ((n2 - t.fr) / 3600))).map fun f => [flV f]), fun _ => none⟩⟩)
    (fun s => M.le s.2 ∧ -2 ≤ s.1 ∧ s.1 ≤ 2000) (fun s => (c2 + 1 - s.1).toNat) (clipS t ((n1 - t.fr) / 3600), M) ⟨Mem.le_refl _, by simp only; omega, by simp only; omega⟩ (Wk.mk' id (by repeat' constructor) (by repeat' constructor) (injOK_id _) rfl rfl rfl) ?_
  rintro ⟨s, M1⟩ ⟨hM1, hs1, hs2⟩ m rfl
  have hM1 : M.le M1 := hM1
  have hs1 : -2 ≤ s := hs1
  have hs2 : s ≤ 2000 := hs2
  repeat (first | refine VIf.tt ?_ | refine VIf.ff ?_)
  refine VDraw.go (by kernel_rfl) ?_
  repeat (first | refine VIf.tt ?_ | refine VIf.ff ?_)
  refine VRead.mk _ (box1 (hM1 _ _ hBc)) ?_
  repeat (first | refine VIf.tt ?_ | refine VIf.ff ?_)
  refine VRead.mk _ (box1 (hM1 _ _ hBu)) ?_
  repeat (first | refine VIf.tt ?_ | refine VIf.ff ?_)
  refine VRead.mk _ (cellAt (hM1 _ _ hBt) 1 rfl) ?_
  repeat (first | refine VIf.tt ?_ | refine VIf.ff ?_)
  refine VArith.ok (by first | omega | (simp only; omega)) (by first | omega | (simp only; omega)) ?_
  repeat (first | refine VIf.tt ?_ | refine VIf.ff ?_)
  refine VFn.p (down_fn (n2 - t.fr) 3600 M1 (by omega) (by omega) (by omega) (by omega)) ?_
  repeat (first | refine VIf.tt ?_ | refine VIf.ff ?_)
  refine VFn.p (clip_fn t v _ Bt M1 (hM1 _ _ hBt)) ?_
  repeat (first | refine VIf.tt ?_ | refine VIf.ff ?_)
  refine VIf.mk (fun hle => ?_) (fun hgt => ?_)
  · have hle : s ≤ clipS t ((n2 - t.fr) / 3600) := of_decide_eq_true hle
    repeat (first | refine VIf.tt ?_ | refine VIf.ff ?_)
    refine VReads.mk (tdC t v).toList rfl (fun j u hj => cellAt (hM1 _ _ hBt) j (by simpa using hj)) ?_
    repeat (first | refine VIf.tt ?_ | refine VIf.ff ?_)
    refine VReads.mk [.int .i64 x1, .int .i64 y1] rfl (fun j u hj => cellAt (hM1 _ _ hBl) j (by simpa using hj)) ?_
    repeat (first | refine VIf.tt ?_ | refine VIf.ff ?_)
    refine VReads.mk [.int .i64 x2, .int .i64 y2] rfl (fun j u hj => cellAt (hM1 _ _ hBh) j (by simpa using hj)) ?_
    repeat (first | refine VIf.tt ?_ | refine VIf.ff ?_)
    refine VFn.mk _ (blocks_fn t v x1 y1 x2 y2 s M1 (hv.le hM1)) ?_
    rintro rs M2 hM2 ⟨B1, B2, B0, B3, rfl, k1, k2, k0, k3⟩
    have m2 := hM1.trans hM2
    repeat (first | refine VIf.tt ?_ | refine VIf.ff ?_)
    refine VFn.mk _ (joined_fn _ _ (blkL t (x1 / 10000) (x2 / 10000) (y1 / 10000) (y2 / 10000) s) M2 (blocks_iter t v x1 y1 x2 y2 s M2 (hv.le m2) ht h1 h2 B1 B2 B0 B3 k1 k2 k0 k3) (blk_ne (hmono hx) (hmono hy)) (fun f hf => (blk_all ht f hf).1) (fun f hf => (blk_all ht f hf).2)) ?_
    rintro rs M3 hM3 ⟨f, rfl, hJ⟩
    have m3 := m2.trans hM3
    have ef : joinL (blkL t (x1 / 10000) (x2 / 10000) (y1 / 10000) (y2 / 10000) s) = f := (joinL_isJ (blk_ne (hmono hx) (hmono hy)) fun f hf => (blk_all ht f hf).2).unique hJ fun _ => Iff.rfl
    repeat (first | refine VIf.tt ?_ | refine VIf.ff ?_)
    refine VYield.mk ((bndF t (x1 / 10000) (y1 / 10000) (x2 / 10000) (y2 / 10000) (s + 1) (clipS t ((n2 - t.fr) / 3600))).map fun f => [flV f]) ?_ ?_ ?_
    · simp only [Gh.mk.injEq, and_true, true_and, Option.some.injEq, Prod.mk.injEq]
      rw [bndF_cons hle, ef]; rfl
    · refine VIf.ff ?_
      repeat (first | refine VIf.tt ?_ | refine VIf.ff ?_)
      refine VArith.ok (by first | omega | (simp only; omega)) (by first | omega | (simp only; omega)) ?_
      exact ⟨rfl, (s + 1, M3), ⟨m3, by first | omega | (simp only; omega), by first | omega | (simp only; omega)⟩, by first | omega | (simp only; omega), (Wk.mk' id (by repeat' constructor) (by repeat' constructor) (injOK_id _) rfl rfl rfl)⟩
    · refine VIf.tt ?_
      exact VEnd.stop rfl
  · have hgt : ¬ s ≤ clipS t ((n2 - t.fr) / 3600) := of_decide_eq_false hgt
    exact VEnd.all (by rw [bndF_nil (by omega)]; rfl)
end Go.Proofs.Ytlppfikkgcfaoaa

/- Contracts of tide: Bound. -/
namespace Go.Proofs.Ytlppfikkgcfaoaa
open Go Go.V Go.RowKit
structure GoodT (t : TideS) (x1 y1 x2 y2 n1 n2 : Int) : Prop where
  ht : tideB t = true
  p1 : placeB (x1, y1) = true
  p2 : placeB (x2, y2) = true
  hx : x1 ≤ x2
  hy : y1 ≤ y2
  h1 : 0 ≤ n1
  h2 : n1 ≤ n2
  h3 : n2 ≤ 1000000000
theorem lo_nest {α β : Type} {l : β → Prop} {S : β → α → Prop} {c : α → Int} {g : β → Int} {a : Int} (h : (∀ x, l x → a ≤ g x) ∧ ∃ x, l x ∧ g x = a) (k : ∀ x, l x → (∀ y, S x y → g x ≤ c y) ∧ ∃ y, S x y ∧ c y = g x) : (∀ y, (∃ x, l x ∧ S x y) → a ≤ c y) ∧ ∃ y, (∃ x, l x ∧ S x y) ∧ c y = a := by
  refine ⟨fun y ⟨x, hx, hy⟩ => ?_, ?_⟩
  · have := h.1 x hx; have := (k x hx).1 y hy; omega
  · obtain ⟨x, hx, e⟩ := h.2
    obtain ⟨y, hy, e'⟩ := (k x hx).2
    exact ⟨y, ⟨x, hx, hy⟩, by omega⟩
theorem hi_nest {α β : Type} {l : β → Prop} {S : β → α → Prop} {c : α → Int} {g : β → Int} {a : Int} (h : (∀ x, l x → g x ≤ a) ∧ ∃ x, l x ∧ g x = a) (k : ∀ x, l x → (∀ y, S x y → c y ≤ g x) ∧ ∃ y, S x y ∧ c y = g x) : (∀ y, (∃ x, l x ∧ S x y) → c y ≤ a) ∧ ∃ y, (∃ x, l x ∧ S x y) ∧ c y = a := by
  refine ⟨fun y ⟨x, hx, hy⟩ => ?_, ?_⟩
  · have := h.1 x hx; have := (k x hx).1 y hy; omega
  · obtain ⟨x, hx, e⟩ := h.2
    obtain ⟨y, hy, e'⟩ := (k x hx).2
    exact ⟨y, ⟨x, hx, hy⟩, by omega⟩
theorem ex_map {β : Type} {l : β → Prop} {g : β → FlowS} {c : FlowS → Int} {a : Int} (h : ∃ f, (∃ x, l x ∧ g x = f) ∧ c f = a) : ∃ x, l x ∧ c (g x) = a := by
  obtain ⟨f, ⟨x, hx, rfl⟩, e⟩ := h
  exact ⟨x, hx, e⟩
theorem isJ_nest {β : Type} {l : β → Prop} {S : β → FlowS → Prop} {g : β → FlowS} {f : FlowS} (h : IsJ (fun y => ∃ x, l x ∧ g x = y) f) (k : ∀ x, l x → IsJ (S x) (g x)) : IsJ (fun y => ∃ x, l x ∧ S x y) f :=
  ⟨h.x, h.y, h.s, lo_nest (g := fun x => (g x).ul) ⟨fun x hx => h.ul.1 _ ⟨x, hx, rfl⟩, ex_map h.ul.2⟩ fun x hx => (k x hx).ul,
   hi_nest (g := fun x => (g x).uh) ⟨fun x hx => h.uh.1 _ ⟨x, hx, rfl⟩, ex_map h.uh.2⟩ fun x hx => (k x hx).uh,
   lo_nest (g := fun x => (g x).vl) ⟨fun x hx => h.vl.1 _ ⟨x, hx, rfl⟩, ex_map h.vl.2⟩ fun x hx => (k x hx).vl,
   hi_nest (g := fun x => (g x).vh) ⟨fun x hx => h.vh.1 _ ⟨x, hx, rfl⟩, ex_map h.vh.2⟩ fun x hx => (k x hx).vh,
   lo_nest (g := fun x => (g x).hl) ⟨fun x hx => h.hl.1 _ ⟨x, hx, rfl⟩, ex_map h.hl.2⟩ fun x hx => (k x hx).hl,
   hi_nest (g := fun x => (g x).hh) ⟨fun x hx => h.hh.1 _ ⟨x, hx, rfl⟩, ex_map h.hh.2⟩ fun x hx => (k x hx).hh⟩
theorem bnd_isJ {t : TideS} (ht : tideB t = true) {x1 x2 y1 y2 q1 q2 : Int} (hx : x1 ≤ x2) (hy : y1 ≤ y2) (hq : q1 ≤ q2) {f : FlowS} (h : IsJ (· ∈ bndF t x1 y1 x2 y2 (clipS t q1) (clipS t q2)) f) : IsJ (inB t x1 x2 y1 y2 q1 q2) f := by
  have h1 : IsJ (fun y => ∃ s, (s ∈ rng (clipS t q1) (clipS t q2)) ∧ joinL (blkL t x1 x2 y1 y2 s) = y) f := h.congr fun y => by unfold bndF; simp
  have h2 := isJ_nest (S := fun s y => y ∈ blkL t x1 x2 y1 y2 s) h1 fun s _ => joinL_isJ (blk_ne hx hy) fun g hg => (blk_all ht g hg).2
  refine h2.congr fun y => ?_
  rw [← inB_clip ht hq]
  constructor
  · rintro ⟨x, y', s, a1, a2, a3, a4, a5, a6, rfl⟩
    exact ⟨s, rng_mem.2 ⟨a5, a6⟩, blk_mem.2 ⟨x, y', s, a1, a2, a3, a4, Int.le_refl _, Int.le_refl _, rfl⟩⟩
  · rintro ⟨s, hs, hm⟩
    obtain ⟨x, y', s', a1, a2, a3, a4, a5, a6, rfl⟩ := blk_mem.1 hm
    have := rng_mem.1 hs
    exact ⟨x, y', s', a1, a2, a3, a4, by omega, by omega, rfl⟩
theorem bndF_all {t : TideS} (ht : tideB t = true) {x1 x2 y1 y2 c1 c2 : Int} (hx : x1 ≤ x2) (hy : y1 ≤ y2) : ∀ g ∈ bndF t x1 y1 x2 y2 c1 c2, bndB g = true ∧ g.x = 0 ∧ g.y = 0 ∧ g.s = 0 := fun g hg => by
  obtain ⟨s, _, rfl⟩ := List.mem_map.1 hg
  have h := joinL_isJ (blk_ne hx hy (t := t) (s := s)) fun g hg => (blk_all ht g hg).2
  exact ⟨h.bnd fun g hg => (blk_all ht g hg).1, h.x, h.y, h.s⟩
set_option maxRecDepth 20000 in
set_option maxHeartbeats 2000000 in
theorem Bound_fn (t : TideS) (v : Value) (x1 y1 x2 y2 n1 n2 : Int) (M : Mem) (hv : FlsV M v t.fl) : V.Fn Try.prog 16 [tdV t v, pt x1 y1, pt x2 y2, .int .i64 n1, .int .i64 n2] M fun rs _ =>
    (GoodT t x1 y1 x2 y2 n1 n2 ∧ ∃ f, rs = [flV f, .int .i64 0] ∧ IsJ (inB t (x1 / 10000) (x2 / 10000) (y1 / 10000) (y2 / 10000) ((n1 - t.fr) / 3600) ((n2 - t.fr) / 3600)) f) ∨ (¬ GoodT t x1 y1 x2 y2 n1 n2 ∧ rs = [flV zeroF, .int .i64 1]) := by
  have hv' := hv
  obtain ⟨ad, c, rfl, hm, hrd⟩ := hv.get
  refine Fn.of_vc cxOK Try.func16 rfl rfl rfl ?_
  repeat (first | refine VIf.tt ?_ | refine VIf.ff ?_)
  refine VFn.mk _ (validT_fn t _ M hv') ?_
  rintro rs M1 hM1 rfl
  repeat (first | refine VIf.tt ?_ | refine VIf.ff ?_)
  refine VIf.mk (fun e1 => ?_) (fun e1 => ?_)
  · repeat (first | refine VIf.tt ?_ | refine VIf.ff ?_)
    exact VFact.mk (.inr ⟨fun h => (by rw [h.ht] at e1; cases e1), rfl⟩) trivial
  repeat (first | refine VIf.tt ?_ | refine VIf.ff ?_)
  refine VFn.p (tidePlace_fn x1 y1 M1) ?_
  repeat (first | refine VIf.tt ?_ | refine VIf.ff ?_)
  refine VIf.mk (fun e2 => ?_) (fun e2 => ?_)
  · repeat (first | refine VIf.tt ?_ | refine VIf.ff ?_)
    exact VFact.mk (.inr ⟨fun h => (by rw [show (isCb x1 && isCb y1) = true from h.p1] at e2; cases e2), rfl⟩) trivial
  repeat (first | refine VIf.tt ?_ | refine VIf.ff ?_)
  refine VFn.p (tidePlace_fn x2 y2 M1) ?_
  repeat (first | refine VIf.tt ?_ | refine VIf.ff ?_)
  refine VIf.mk (fun e3 => ?_) (fun e3 => ?_)
  · repeat (first | refine VIf.tt ?_ | refine VIf.ff ?_)
    exact VFact.mk (.inr ⟨fun h => (by rw [show (isCb x2 && isCb y2) = true from h.p2] at e3; cases e3), rfl⟩) trivial
  repeat (first | refine VIf.tt ?_ | refine VIf.ff ?_)
  refine VIf.mk (fun e4 => ?_) (fun e4 => ?_)
  · repeat (first | refine VIf.tt ?_ | refine VIf.ff ?_)
    exact VFact.mk (.inr ⟨fun h => (by have := h.hx; have := of_decide_eq_true e4; omega), rfl⟩) trivial
  repeat (first | refine VIf.tt ?_ | refine VIf.ff ?_)
  refine VIf.mk (fun e5 => ?_) (fun e5 => ?_)
  · repeat (first | refine VIf.tt ?_ | refine VIf.ff ?_)
    exact VFact.mk (.inr ⟨fun h => (by have := h.hy; have := of_decide_eq_true e5; omega), rfl⟩) trivial
  repeat (first | refine VIf.tt ?_ | refine VIf.ff ?_)
  refine VFn.p (isTime_fn n1 M1) ?_
  repeat (first | refine VIf.tt ?_ | refine VIf.ff ?_)
  refine VIf.mk (fun e6 => ?_) (fun e6 => ?_)
  · repeat (first | refine VIf.tt ?_ | refine VIf.ff ?_)
    exact VFact.mk (.inr ⟨fun h => (by rw [decide_eq_true ⟨h.h1, Int.le_trans h.h2 h.h3⟩] at e6; cases e6), rfl⟩) trivial
  repeat (first | refine VIf.tt ?_ | refine VIf.ff ?_)
  refine VFn.p (isTime_fn n2 M1) ?_
  repeat (first | refine VIf.tt ?_ | refine VIf.ff ?_)
  refine VIf.mk (fun e7 => ?_) (fun e7 => ?_)
  · repeat (first | refine VIf.tt ?_ | refine VIf.ff ?_)
    exact VFact.mk (.inr ⟨fun h => (by rw [decide_eq_true ⟨Int.le_trans h.h1 h.h2, h.h3⟩] at e7; cases e7), rfl⟩) trivial
  repeat (first | refine VIf.tt ?_ | refine VIf.ff ?_)
  refine VIf.mk (fun e8 => ?_) (fun e8 => ?_)
  · repeat (first | refine VIf.tt ?_ | refine VIf.ff ?_)
    exact VFact.mk (.inr ⟨fun h => (by have := h.h2; have := of_decide_eq_true e8; omega), rfl⟩) trivial
  have good : GoodT t x1 y1 x2 y2 n1 n2 := by
    have a6 := of_decide_eq_true ((Bool.not_eq_false' _).mp e6)
    have a7 := of_decide_eq_true ((Bool.not_eq_false' _).mp e7)
    have a4 := of_decide_eq_false e4
    have a5 := of_decide_eq_false e5
    have a8 := of_decide_eq_false e8
    exact ⟨(Bool.not_eq_false' _).mp e1, (Bool.not_eq_false' _).mp e2, (Bool.not_eq_false' _).mp e3, by omega, by omega, a6.1, by omega, a7.2⟩
  repeat (first | refine VIf.tt ?_ | refine VIf.ff ?_)
  refine VOwn.frz ?_
  repeat (first | refine VIf.tt ?_ | refine VIf.ff ?_)
  refine VFzB.mk fun z1 C1 N1 hN1 hC1 => ?_
  repeat (first | refine VIf.tt ?_ | refine VIf.ff ?_)
  refine VFzB.mk fun z2 C2 N2 hN2 hC2 => ?_
  repeat (first | refine VIf.tt ?_ | refine VIf.ff ?_)
  refine VFzB.mk fun z3 C3 N3 hN3 hC3 => ?_
  repeat (first | refine VIf.tt ?_ | refine VIf.ff ?_)
  refine VFzB.mk fun z4 C4 N4 hN4 hC4 => ?_
  repeat (first | refine VIf.tt ?_ | refine VIf.ff ?_)
  refine VFzB.mk fun z5 C5 N5 hN5 hC5 => ?_
  repeat (first | refine VIf.tt ?_ | refine VIf.ff ?_)
  refine VFzB.mk fun z6 C6 N6 hN6 hC6 => ?_
  have hC1 : N1 C1 = some (.cells (tdC t (.slice ad t.fl.length c)) 28 (0, 0)) := hC1
  have hC2 : N2 C2 = some (.cells #[.func (.func 46) #[] #[.pointer (some ⟨C1, 0, none⟩)]] 42 (0, 0)) := hC2
  have hC3 : N3 C3 = some (.cells #[.int .i64 n1] 3 (0, 0)) := hC3
  have hC4 : N4 C4 = some (.cells #[.int .i64 n2] 3 (0, 0)) := hC4
  have hC5 : N5 C5 = some (.cells #[.int .i64 x1, .int .i64 y1] 30 (0, 0)) := hC5
  have hC6 : N6 C6 = some (.cells #[.int .i64 x2, .int .i64 y2] 30 (0, 0)) := hC6
  have w5 := hN6
  have w4 := hN5.trans w5
  have w3 := hN4.trans w4
  have w2 := hN3.trans w3
  have w1 := hN2.trans w2
  have w0 := hN1.trans w1
  have hq : (n1 - t.fr) / 3600 ≤ (n2 - t.fr) / 3600 := by have := good.h2; omega
  have hx' : x1 / 10000 ≤ x2 / 10000 := by have := good.hx; omega
  have hy' : y1 / 10000 ≤ y2 / 10000 := by have := good.hy; omega
  have hcl : clipS t ((n1 - t.fr) / 3600) ≤ clipS t ((n2 - t.fr) / 3600) := clip_mono hq
  repeat (first | refine VIf.tt ?_ | refine VIf.ff ?_)
  refine VFn.mk _ (joined_fn _ _ _ N6 (bound_iter t _ x1 y1 x2 y2 n1 n2 N6 (hv'.le (hM1.trans w0)) good.ht good.p1 good.p2 good.hx good.hy ⟨good.h1, good.h2, good.h3⟩ C2 C3 C1 C4 C5 C6 (w2 _ _ hC2) (w3 _ _ hC3) (w1 _ _ hC1) (w4 _ _ hC4) (w5 _ _ hC5) hC6)
    (by rw [bndF_cons hcl]; simp) (fun f hf => (bndF_all good.ht hx' hy' f hf).1) (fun f hf => (bndF_all good.ht hx' hy' f hf).2)) ?_
  rintro rs M3 hM3 ⟨f, rfl, hJ⟩
  repeat (first | refine VIf.tt ?_ | refine VIf.ff ?_)
  exact VFact.mk (.inl ⟨good, f, rfl, bnd_isJ good.ht hx' hy' hq hJ⟩) trivial
end Go.Proofs.Ytlppfikkgcfaoaa

/- Contracts of the tide's reference: what is usable. -/
namespace Go.Proofs.Ytlppfikkgcfaoaa
open Go Go.V Go.RowKit
theorem at_fn13 (x y : Int) (M : Mem) : FnP Try.prog 22 [.int .i64 x, .int .i64 y] M [pt x y] := by
  refine Fn.of_vc cxOK Try.func22 rfl rfl rfl ?_
  repeat (first | refine VIf.tt ?_ | refine VIf.ff ?_)
  exact VFact.mk ⟨rfl, rfl⟩ trivial
theorem In01_fn (n lo hi : Int) (M : Mem) : FnP Try.prog 83 [.int .i64 n, .int .i64 lo, .int .i64 hi] M [.bool (decide (lo ≤ n ∧ n ≤ hi))] := by
  refine Fn.of_vc cxOK Try.func83 rfl rfl rfl ?_
  repeat' (first | refine VIf.tt ?_ | refine VIf.ff ?_ | refine VIf.mk (fun _ => ?_) (fun _ => ?_) | refine VFact.mk ?_ trivial)
  all_goals (refine ⟨bool1 ?_, rfl⟩; simp only [Bool.and_eq_true, decide_eq_true_eq, decide_eq_false_iff_not, Bool.false_eq_true, false_iff] at *; omega)
theorem within13_fn (a b lo hi : Int) (M : Mem) : FnP Try.prog 109 [.agg #[.int .i64 a, .int .i64 b], .int .i64 lo, .int .i64 hi] M [.bool (decide (lo ≤ a ∧ a ≤ b ∧ b ≤ hi))] := by
  refine Fn.of_vc cxOK Try.func109 rfl rfl rfl ?_
  repeat' (first | refine VIf.tt ?_ | refine VIf.ff ?_ | refine VIf.mk (fun _ => ?_) (fun _ => ?_) | refine VFact.mk ?_ trivial)
  all_goals (refine ⟨bool1 ?_, rfl⟩; simp only [Bool.and_eq_true, decide_eq_true_eq, decide_eq_false_iff_not, Bool.false_eq_true, false_iff] at *; omega)
theorem Time13_fn (a b : Int) (M : Mem) : FnP Try.prog 43 [.int .i64 a, .int .i64 b] M [.bool (decide (0 ≤ a ∧ a ≤ b ∧ b ≤ 1000000000))] := by
  refine Fn.of_vc cxOK Try.func43 rfl rfl rfl ?_
  repeat' (first | refine VIf.tt ?_ | refine VIf.ff ?_ | refine VIf.mk (fun _ => ?_) (fun _ => ?_) | refine VFact.mk ?_ trivial)
  all_goals (refine ⟨bool1 ?_, rfl⟩; simp only [Bool.and_eq_true, decide_eq_true_eq, decide_eq_false_iff_not, Bool.false_eq_true, false_iff] at *; omega)
theorem before13_fn (a b : FlowS) (M : Mem) : FnP Try.prog 84 [flV a, flV b] M [.bool (decide (cmpF a b < 0))] := by
  refine Fn.of_vc cxOK Try.func84 rfl rfl rfl ?_
  repeat' (first | refine VIf.tt ?_ | refine VIf.ff ?_ | refine VIf.mk (fun _ => ?_) (fun _ => ?_) | refine VFact.mk ?_ trivial)
  all_goals (refine ⟨bool1 ?_, rfl⟩; simp only [cmpF_lt, bne_iff_ne, bne_eq_false_iff_eq, decide_eq_true_eq] at *; omega)
theorem SpanIn_fn (a b c d : Int) (M : Mem) : FnP Try.prog 90 [.agg #[.int .i64 a, .int .i64 b], .agg #[.int .i64 c, .int .i64 d]] M [.bool (decide (c ≤ a ∧ b ≤ d))] := by
  refine Fn.of_vc cxOK Try.func90 rfl rfl rfl ?_
  repeat' (first | refine VIf.tt ?_ | refine VIf.ff ?_ | refine VIf.mk (fun _ => ?_) (fun _ => ?_) | refine VFact.mk ?_ trivial)
  all_goals (refine ⟨bool1 ?_, rfl⟩; simp only [Bool.and_eq_true, decide_eq_true_eq, decide_eq_false_iff_not, Bool.false_eq_true, false_iff] at *; omega)
theorem SpanIn13_fn (a b c d : Int) (M : Mem) : FnP Try.prog 54 [.agg #[.int .i64 a, .int .i64 b], .agg #[.int .i64 c, .int .i64 d]] M [.bool (decide (c ≤ a ∧ b ≤ d))] := by
  refine Fn.of_vc cxOK Try.func54 rfl rfl rfl ?_
  repeat (first | refine VIf.tt ?_ | refine VIf.ff ?_)
  refine VFn.p (SpanIn_fn a b c d M) ?_
  repeat (first | refine VIf.tt ?_ | refine VIf.ff ?_)
  exact VFact.mk ⟨rfl, rfl⟩ trivial
def inFB (a b : FlowS) : Bool := decide (b.ul ≤ a.ul ∧ a.uh ≤ b.uh) && decide (b.vl ≤ a.vl ∧ a.vh ≤ b.vh) && decide (b.hl ≤ a.hl ∧ a.hh ≤ b.hh)
theorem inFB_of {a b : FlowS} (h : inF a b) : inFB a b = true := by
  unfold inF at h
  simp only [inFB, Bool.and_eq_true, decide_eq_true_eq]; omega
theorem FlowIn_fn (a b : FlowS) (M : Mem) : FnP Try.prog 19 [flV a, flV b] M [.bool (inFB a b)] := by
  refine Fn.of_vc cxOK Try.func19 rfl rfl rfl ?_
  unfold inFB
  repeat (first | refine VIf.tt ?_ | refine VIf.ff ?_)
  refine VFn.p (SpanIn13_fn _ _ _ _ M) ?_
  repeat (first | refine VIf.tt ?_ | refine VIf.ff ?_)
  refine VFn.p (SpanIn13_fn _ _ _ _ M) ?_
  repeat (first | refine VIf.tt ?_ | refine VIf.ff ?_)
  refine VIf.mk (fun h1 => ?_) (fun h1 => ?_)
  · repeat (first | refine VIf.tt ?_ | refine VIf.ff ?_)
    refine VIf.mk (fun h2 => ?_) (fun h2 => ?_)
    · repeat (first | refine VIf.tt ?_ | refine VIf.ff ?_)
      refine VFn.p (SpanIn13_fn _ _ _ _ M) ?_
      repeat (first | refine VIf.tt ?_ | refine VIf.ff ?_)
      exact VFact.mk ⟨by rw [h1, h2]; rfl, rfl⟩ trivial
    · repeat (first | refine VIf.tt ?_ | refine VIf.ff ?_)
      exact VFact.mk ⟨by rw [h1, h2]; rfl, rfl⟩ trivial
  · repeat (first | refine VIf.tt ?_ | refine VIf.ff ?_)
    exact VFact.mk ⟨by rw [h1]; rfl, rfl⟩ trivial
end Go.Proofs.Ytlppfikkgcfaoaa

/- Contracts of the tide's reference: bounds, rectangle, few, valid; what the laws look at. -/
namespace Go.Proofs.Ytlppfikkgcfaoaa
open Go Go.V Go.RowKit
theorem Bounds13_fn (f : FlowS) (M : Mem) : FnP Try.prog 82 [flV f] M [.bool (bndB f)] := by
  refine Fn.of_vc cxOK Try.func82 rfl rfl rfl ?_
  repeat (first | refine VIf.tt ?_ | refine VIf.ff ?_)
  refine VFn.p (within13_fn _ _ _ _ M) ?_
  repeat (first | refine VIf.tt ?_ | refine VIf.ff ?_)
  refine VFn.p (within13_fn _ _ _ _ M) ?_
  have e : ∀ m a b : Int, decide (-m ≤ a ∧ a ≤ b ∧ b ≤ m) = spB m a b := fun m a b => by
    unfold spB
    rw [Bool.eq_iff_iff, decide_eq_true_eq, decide_eq_true_eq]; omega
  have e1 := e 5000 f.ul f.uh
  have e2 := e 5000 f.vl f.vh
  have e3 := e 2000 f.hl f.hh
  repeat (first | refine VIf.tt ?_ | refine VIf.ff ?_)
  refine VIf.mk (fun h1 => ?_) (fun h1 => ?_)
  · repeat (first | refine VIf.tt ?_ | refine VIf.ff ?_)
    refine VIf.mk (fun h2 => ?_) (fun h2 => ?_)
    · repeat (first | refine VIf.tt ?_ | refine VIf.ff ?_)
      refine VFn.p (within13_fn _ _ _ _ M) ?_
      repeat (first | refine VIf.tt ?_ | refine VIf.ff ?_)
      refine VFact.mk ⟨?_, rfl⟩ trivial
      unfold bndB
      rw [← e1, ← e2, ← e3, h1, h2]; rfl
    · repeat (first | refine VIf.tt ?_ | refine VIf.ff ?_)
      refine VFact.mk ⟨?_, rfl⟩ trivial
      unfold bndB
      rw [← e1, ← e2, h1, h2]; rfl
  · repeat (first | refine VIf.tt ?_ | refine VIf.ff ?_)
    refine VFact.mk ⟨?_, rfl⟩ trivial
    unfold bndB
    rw [← e1, h1]; rfl
def rectB (x1 y1 x2 y2 : Int) : Bool := placeB (x1, y1) && placeB (x2, y2) && decide (x1 ≤ x2) && decide (y1 ≤ y2)
theorem Rect_fn (x1 y1 x2 y2 : Int) (M : Mem) : FnP Try.prog 42 [pt x1 y1, pt x2 y2] M [.bool (rectB x1 y1 x2 y2)] := by
  refine Fn.of_vc cxOK Try.func42 rfl rfl rfl ?_
  repeat (first | refine VIf.tt ?_ | refine VIf.ff ?_)
  refine VFn.p (Place_fn x1 y1 M) ?_
  repeat (first | refine VIf.tt ?_ | refine VIf.ff ?_)
  refine VFn.p (Place_fn x2 y2 M) ?_
  have e1 : placeB (x1, y1) = (isCb x1 && isCb y1) := rfl
  have e2 : placeB (x2, y2) = (isCb x2 && isCb y2) := rfl
  unfold rectB
  rw [e1, e2]
  repeat (first | refine VIf.tt ?_ | refine VIf.ff ?_)
  refine VIf.mk (fun h1 => ?_) (fun h1 => ?_)
  · repeat (first | refine VIf.tt ?_ | refine VIf.ff ?_)
    refine VIf.mk (fun h2 => ?_) (fun h2 => ?_)
    · repeat (first | refine VIf.tt ?_ | refine VIf.ff ?_)
      refine VIf.mk (fun h3 => ?_) (fun h3 => ?_)
      · repeat (first | refine VIf.tt ?_ | refine VIf.ff ?_)
        exact VFact.mk ⟨by rw [h1, h2, h3]; rfl, rfl⟩ trivial
      · repeat (first | refine VIf.tt ?_ | refine VIf.ff ?_)
        exact VFact.mk ⟨by rw [h1, h2, h3]; rfl, rfl⟩ trivial
    · repeat (first | refine VIf.tt ?_ | refine VIf.ff ?_)
      exact VFact.mk ⟨by rw [h1, h2]; rfl, rfl⟩ trivial
  · repeat (first | refine VIf.tt ?_ | refine VIf.ff ?_)
    exact VFact.mk ⟨by rw [h1]; rfl, rfl⟩ trivial
end Go.Proofs.Ytlppfikkgcfaoaa

/- Contracts of the tide's reference: few, valid, usable. -/
namespace Go.Proofs.Ytlppfikkgcfaoaa
open Go Go.V Go.RowKit
theorem place13_bd {x y : Int} (h : placeB (x, y) = true) : -500000 ≤ x ∧ x ≤ 500000 ∧ -500000 ≤ y ∧ y ≤ 500000 := by
  simp only [placeB, Bool.and_eq_true] at h
  have h1 := isCb_bd h.1
  have h2 := isCb_bd h.2
  exact ⟨h1.1, h1.2, h2.1, h2.2⟩
theorem rect_get {x1 y1 x2 y2 : Int} (h : rectB x1 y1 x2 y2 = true) : placeB (x1, y1) = true ∧ placeB (x2, y2) = true ∧ x1 ≤ x2 ∧ y1 ≤ y2 := by
  simp only [rectB, Bool.and_eq_true, decide_eq_true_eq] at h
  exact ⟨h.1.1.1, h.1.1.2, h.1.2, h.2⟩
theorem Few13_fn (t : TideS) (v : Value) (x1 y1 x2 y2 n1 n2 : Int) (M : Mem) (hv : FlsV M v t.fl) : FnP Try.prog 42 [pt x1 y1, pt x2 y2] M [.bool (rectB x1 y1 x2 y2)] ∧ V.Fn Try.prog 40 [tdV t v, pt x1 y1, pt x2 y2, .int .i64 n1, .int .i64 n2] M fun rs _ => ∃ b, rs = [.bool b] := by
  refine ⟨Rect_fn x1 y1 x2 y2 M, ?_⟩
  obtain ⟨ad, c, rfl, hm, hrd⟩ := hv.get
  refine Fn.of_vc cxOK Try.func40 rfl rfl rfl ?_
  obtain ⟨r, hr⟩ : ∃ r, rectB x1 y1 x2 y2 = r := ⟨_, rfl⟩
  have hR := Rect_fn x1 y1 x2 y2 M
  rw [hr] at hR
  repeat (first | refine VIf.tt ?_ | refine VIf.ff ?_)
  refine VFn.p hR ?_
  repeat (first | refine VIf.tt ?_ | refine VIf.ff ?_)
  refine VIf.mk (fun _ => ?_) (fun _ => ?_)
  · repeat (first | refine VIf.tt ?_ | refine VIf.ff ?_)
    exact VFact.mk ⟨_, rfl⟩ trivial
  repeat (first | refine VIf.tt ?_ | refine VIf.ff ?_)
  refine VIf.mk (fun _ => ?_) (fun _ => ?_)
  · repeat (first | refine VIf.tt ?_ | refine VIf.ff ?_)
    exact VFact.mk ⟨_, rfl⟩ trivial
  repeat (first | refine VIf.tt ?_ | refine VIf.ff ?_)
  refine VIf.mk (fun _ => ?_) (fun hr' => ?_)
  · repeat (first | refine VIf.tt ?_ | refine VIf.ff ?_)
    exact VFact.mk ⟨_, rfl⟩ trivial
  have hr' : r = true := by simpa using hr'
  subst hr'
  obtain ⟨p1, p2, hx, hy⟩ := rect_get hr
  have b1 := place13_bd p1
  have b2 := place13_bd p2
  repeat (first | refine VIf.tt ?_ | refine VIf.ff ?_)
  refine VFn.p (Time13_fn n1 n2 M) ?_
  repeat (first | refine VIf.tt ?_ | refine VIf.ff ?_)
  refine VIf.mk (fun _ => ?_) (fun ht => ?_)
  · repeat (first | refine VIf.tt ?_ | refine VIf.ff ?_)
    exact VFact.mk ⟨_, rfl⟩ trivial
  have ht := of_decide_eq_true ((Bool.not_eq_false' _).mp ht)
  have d1 := tdiv_bd (a := x2 - x1) (b := 10000) (by omega) (by omega) (by omega)
  have d2 := tdiv_bd (a := y2 - y1) (b := 10000) (by omega) (by omega) (by omega)
  have d3 := tdiv_bd (a := n2 - n1) (b := 3600) (by omega) (by omega) (by omega)
  repeat (first | refine VIf.tt ?_ | refine VIf.ff ?_)
  refine VArith.ok (by first | omega | (simp only; omega)) (by first | omega | (simp only; omega)) ?_
  repeat (first | refine VIf.tt ?_ | refine VIf.ff ?_)
  refine VDiv.mk (by decide) ?_
  repeat (first | refine VIf.tt ?_ | refine VIf.ff ?_)
  refine VArith.ok (by first | omega | (simp only; omega)) (by first | omega | (simp only; omega)) ?_
  repeat (first | refine VIf.tt ?_ | refine VIf.ff ?_)
  refine VIf.mk (fun _ => ?_) (fun _ => ?_)
  rotate_left
  · repeat (first | refine VIf.tt ?_ | refine VIf.ff ?_)
    repeat (first | refine VIf.tt ?_ | refine VIf.ff ?_)
    exact VFact.mk ⟨_, rfl⟩ trivial
  repeat (first | refine VIf.tt ?_ | refine VIf.ff ?_)
  refine VArith.ok (by first | omega | (simp only; omega)) (by first | omega | (simp only; omega)) ?_
  repeat (first | refine VIf.tt ?_ | refine VIf.ff ?_)
  refine VDiv.mk (by decide) ?_
  repeat (first | refine VIf.tt ?_ | refine VIf.ff ?_)
  refine VArith.ok (by first | omega | (simp only; omega)) (by first | omega | (simp only; omega)) ?_
  repeat (first | refine VIf.tt ?_ | refine VIf.ff ?_)
  refine VIf.mk (fun _ => ?_) (fun _ => ?_)
  rotate_left
  · repeat (first | refine VIf.tt ?_ | refine VIf.ff ?_)
    repeat (first | refine VIf.tt ?_ | refine VIf.ff ?_)
    exact VFact.mk ⟨_, rfl⟩ trivial
  repeat (first | refine VIf.tt ?_ | refine VIf.ff ?_)
  refine VArith.ok (by first | omega | (simp only; omega)) (by first | omega | (simp only; omega)) ?_
  repeat (first | refine VIf.tt ?_ | refine VIf.ff ?_)
  refine VDiv.mk (by decide) ?_
  repeat (first | refine VIf.tt ?_ | refine VIf.ff ?_)
  refine VArith.ok (by first | omega | (simp only; omega)) (by first | omega | (simp only; omega)) ?_
  repeat (first | refine VIf.tt ?_ | refine VIf.ff ?_)
  exact VFact.mk ⟨_, rfl⟩ trivial
end Go.Proofs.Ytlppfikkgcfaoaa

/- Contracts of the tide's reference: valid editions. -/
namespace Go.Proofs.Ytlppfikkgcfaoaa
open Go Go.V Go.RowKit
set_option maxRecDepth 20000 in
set_option maxHeartbeats 2000000 in
theorem validR13_fn (t : TideS) (v : Value) (M : Mem) (hv : FlsV M v t.fl) : FnP Try.prog 41 [tdV t v] M [.bool (tideB t)] := by
  obtain ⟨ad, c, rfl, hm, hrd⟩ := hv.get
  have no : (tideB t = true → False) → [Value.bool false] = [.bool (tideB t)] ∧ M = M := fun h => ⟨noT h, rfl⟩
  refine Fn.of_vc cxOK Try.func41 rfl rfl rfl ?_
  repeat (first | refine VIf.tt ?_ | refine VIf.ff ?_)
  refine VFn.p (Bounds13_fn t.rest M) ?_
  repeat (first | refine VIf.tt ?_ | refine VIf.ff ?_)
  refine VFn.p (In01_fn t.ver 1 1000000 M) ?_
  repeat (first | refine VIf.tt ?_ | refine VIf.ff ?_)
  refine VFn.p (In01_fn t.fr 0 1000000000 M) ?_
  repeat (first | refine VIf.tt ?_ | refine VIf.ff ?_)
  refine VFn.p (In01_fn t.sl 0 1000 M) ?_
  repeat (first | refine VIf.tt ?_ | refine VIf.ff ?_)
  refine VIf.mk (fun e1 => ?_) (fun e1 => ?_)
  · repeat (first | refine VIf.tt ?_ | refine VIf.ff ?_)
    exact VFact.mk (no fun h => by have h := (tide_get h).2.1; rw [h] at e1; cases e1) trivial
  repeat (first | refine VIf.tt ?_ | refine VIf.ff ?_)
  refine VIf.mk (fun e2 => ?_) (fun e2 => ?_)
  · repeat (first | refine VIf.tt ?_ | refine VIf.ff ?_)
    exact VFact.mk (no fun h => by have h := (tide_get h).1; simp only [Bool.not_eq_true', decide_eq_false_iff_not] at e2; omega) trivial
  repeat (first | refine VIf.tt ?_ | refine VIf.ff ?_)
  refine VIf.mk (fun e3 => ?_) (fun e3 => ?_)
  · repeat (first | refine VIf.tt ?_ | refine VIf.ff ?_)
    exact VFact.mk (no fun h => by have h := (tide_get h).1; simp only [Bool.not_eq_true', decide_eq_false_iff_not] at e3; omega) trivial
  repeat (first | refine VIf.tt ?_ | refine VIf.ff ?_)
  refine VIf.mk (fun e4 => ?_) (fun e4 => ?_)
  · repeat (first | refine VIf.tt ?_ | refine VIf.ff ?_)
    exact VFact.mk (no fun h => by have h := (tide_get h).1; simp only [Bool.not_eq_true', decide_eq_false_iff_not] at e4; omega) trivial
  repeat (first | refine VIf.tt ?_ | refine VIf.ff ?_)
  refine VIf.mk (fun e5 => ?_) (fun e5 => ?_)
  · repeat (first | refine VIf.tt ?_ | refine VIf.ff ?_)
    exact VFact.mk (no fun h => by have h := (tide_get h).1; exact bne_iff_ne.1 e5 h.2.2.2.2.2.2.2.1) trivial
  repeat (first | refine VIf.tt ?_ | refine VIf.ff ?_)
  refine VIf.mk (fun e6 => ?_) (fun e6 => ?_)
  · repeat (first | refine VIf.tt ?_ | refine VIf.ff ?_)
    exact VFact.mk (no fun h => by have h := (tide_get h).1; exact bne_iff_ne.1 e6 h.2.2.2.2.2.2.2.2.1) trivial
  repeat (first | refine VIf.tt ?_ | refine VIf.ff ?_)
  refine VIf.mk (fun e7 => ?_) (fun e7 => ?_)
  · repeat (first | refine VIf.tt ?_ | refine VIf.ff ?_)
    exact VFact.mk (no fun h => by have h := (tide_get h).1; exact bne_iff_ne.1 e7 h.2.2.2.2.2.2.2.2.2) trivial
  repeat (first | refine VIf.tt ?_ | refine VIf.ff ?_)
  refine VIf.mk (fun e8 => ?_) (fun e8 => ?_)
  · repeat (first | refine VIf.tt ?_ | refine VIf.ff ?_)
    exact VFact.mk (no fun h => by have h := (tide_get h).1; have := of_decide_eq_true e8; omega) trivial
  repeat (first | refine VIf.tt ?_ | refine VIf.ff ?_)
  refine VCode.loop cxOK Nat (fun i => ⟨[(1, .box 0 0), (7, .v (.int .i64 i))], [(0, some (.box 28 [.v (.int .i64 t.ver), .v (.int .i64 t.fr), .v (.int .i64 t.sl), .v (.int .i64 t.rest.x), .v (.int .i64 t.rest.y), .v (.int .i64 t.rest.s), .v (.int .i64 t.rest.ul), .v (.int .i64 t.rest.uh), .v (.int .i64 t.rest.vl), .v (.int .i64 t.rest.vh), .v (.int .i64 t.rest.hl), .v (.int .i64 t.rest.hh), .v (.slice ad t.fl.length c)]))], 1, M, 117, ⟨fun _ => none, none, fun _ => none⟩⟩)
    (fun i => i ≤ t.fl.length ∧ ∀ j, j < i → flowB t j = true) (fun i => t.fl.length - i) 0 ⟨Nat.zero_le _, fun j hj => by simp at hj⟩ (Wk.mk' id (by repeat' constructor) (by repeat' constructor) (injOK_id _) rfl rfl rfl) ?_
  rintro i ⟨hi, hz⟩ m
  repeat (first | refine VIf.tt ?_ | refine VIf.ff ?_)
  refine VIf.mk (fun hlt => ?_) (fun hge => ?_)
  · have hlt : i < t.fl.length := lt_of_dec hlt
    obtain ⟨ad', ead, hr⟩ := hrd M (Mem.le_refl _) i hlt
    repeat (first | refine VIf.tt ?_ | refine VIf.ff ?_)
    refine VIdx.mk ad' i ead rfl hlt ?_
    repeat (first | refine VIf.tt ?_ | refine VIf.ff ?_)
    refine VReads.mk (flC (gf t.fl i)) rfl hr ?_
    have bads : (flowB t i = true → False) → [Value.bool false] = [.bool (tideB t)] ∧ M = M := fun h => no fun h' => h ((tide_get h').2.2 i hlt)
    obtain ⟨g, hg⟩ : ∃ g, gf t.fl i = g := ⟨_, rfl⟩
    rw [hg]
    have key : flowB t i = true → (-50 ≤ g.x ∧ g.x ≤ 50 ∧ -50 ≤ g.y ∧ g.y ≤ 50 ∧ 0 ≤ g.s ∧ g.s < t.sl) ∧ bndB g = true ∧ (i = 0 ∨ cmpF (gf t.fl (i - 1)) g < 0) := fun h => by
      simp only [flowB, hg, Bool.and_eq_true, Bool.or_eq_true, decide_eq_true_eq, beq_iff_eq] at h
      exact ⟨h.1.1, h.1.2, h.2⟩
    repeat (first | refine VIf.tt ?_ | refine VIf.ff ?_)
    refine VFn.p (Bounds13_fn g M) ?_
    repeat (first | refine VIf.tt ?_ | refine VIf.ff ?_)
    refine VFn.p (In01_fn g.x (-50) 50 M) ?_
    repeat (first | refine VIf.tt ?_ | refine VIf.ff ?_)
    refine VFn.p (In01_fn g.y (-50) 50 M) ?_
    repeat (first | refine VIf.tt ?_ | refine VIf.ff ?_)
    refine VIf.mk (fun f1 => ?_) (fun f1 => ?_)
    · repeat (first | refine VIf.tt ?_ | refine VIf.ff ?_)
      exact VFact.mk (bads fun h => by have := (key h).2.1; rw [this] at f1; cases f1) trivial
    repeat (first | refine VIf.tt ?_ | refine VIf.ff ?_)
    refine VIf.mk (fun f2 => ?_) (fun f2 => ?_)
    · repeat (first | refine VIf.tt ?_ | refine VIf.ff ?_)
      exact VFact.mk (bads fun h => by have := (key h).1; simp only [Bool.not_eq_true', decide_eq_false_iff_not] at f2; omega) trivial
    repeat (first | refine VIf.tt ?_ | refine VIf.ff ?_)
    refine VIf.mk (fun f3 => ?_) (fun f3 => ?_)
    · repeat (first | refine VIf.tt ?_ | refine VIf.ff ?_)
      exact VFact.mk (bads fun h => by have := (key h).1; simp only [Bool.not_eq_true', decide_eq_false_iff_not] at f3; omega) trivial
    repeat (first | refine VIf.tt ?_ | refine VIf.ff ?_)
    refine VIf.mk (fun f5 => ?_) (fun f5 => ?_)
    · repeat (first | refine VIf.tt ?_ | refine VIf.ff ?_)
      exact VFact.mk (bads fun h => by have := (key h).1; have := of_decide_eq_true f5; omega) trivial
    repeat (first | refine VIf.tt ?_ | refine VIf.ff ?_)
    refine VIf.mk (fun f6 => ?_) (fun f6 => ?_)
    · repeat (first | refine VIf.tt ?_ | refine VIf.ff ?_)
      exact VFact.mk (bads fun h => by have := (key h).1; have := of_decide_eq_true f6; omega) trivial
    have okF : (i = 0 ∨ cmpF (gf t.fl (i - 1)) g < 0) → ∀ j, j < i + 1 → flowB t j = true := fun h j hj => by
      by_cases e : j = i
      · subst e
        simp only [Bool.not_eq_false', decide_eq_true_eq, decide_eq_false_iff_not] at f1 f2 f3 f5 f6
        simp only [flowB, hg, Bool.and_eq_true, Bool.or_eq_true, decide_eq_true_eq, beq_iff_eq]
        exact ⟨⟨by omega, f1⟩, h⟩
      · exact hz j (by omega)
    repeat (first | refine VIf.tt ?_ | refine VIf.ff ?_)
    refine VDraw.go (by kernel_rfl) ?_
    repeat (first | refine VIf.tt ?_ | refine VIf.ff ?_)
    refine VIf.mk (fun f8 => ?_) (fun f8 => ?_)
    · have hi0 : 0 < i := by have := of_decide_eq_true f8; omega
      repeat (first | refine VIf.tt ?_ | refine VIf.ff ?_)
      refine VArith.ok (by first | omega | (simp only; omega)) (by first | omega | (simp only; omega)) ?_
      obtain ⟨ad2, ead2, hr2⟩ := hrd M (Mem.le_refl _) (i - 1) (by omega)
      repeat (first | refine VIf.tt ?_ | refine VIf.ff ?_)
      refine VIdx.mk ad2 (i - 1) ead2 (by first | omega | (simp only; omega)) (by omega) ?_
      repeat (first | refine VIf.tt ?_ | refine VIf.ff ?_)
      refine VReads.mk (flC (gf t.fl (i - 1))) rfl hr2 ?_
      repeat (first | refine VIf.tt ?_ | refine VIf.ff ?_)
      refine VFn.p (before13_fn (gf t.fl (i - 1)) g M) ?_
      repeat (first | refine VIf.tt ?_ | refine VIf.ff ?_)
      refine VIf.mk (fun f9 => ?_) (fun f9 => ?_)
      · repeat (first | refine VIf.tt ?_ | refine VIf.ff ?_)
        exact VFact.mk (bads fun h => by have := (key h).2.2; simp only [Bool.not_eq_true', decide_eq_false_iff_not] at f9; omega) trivial
      · repeat (first | refine VIf.tt ?_ | refine VIf.ff ?_)
        refine VArith.ok (by first | omega | (simp only; omega)) (by first | omega | (simp only; omega)) ?_
        exact ⟨i + 1, ⟨hlt, okF (.inr (of_decide_eq_true ((Bool.not_eq_false' _).mp f9)))⟩, (by first | omega | (simp only; omega)), (Wk.mk' id (by repeat' constructor) (by repeat' constructor) (injOK_id _) rfl rfl rfl)⟩
    · repeat (first | refine VIf.tt ?_ | refine VIf.ff ?_)
      refine VArith.ok (by first | omega | (simp only; omega)) (by first | omega | (simp only; omega)) ?_
      exact ⟨i + 1, ⟨hlt, okF (.inl (by have := of_decide_eq_false f8; omega))⟩, (by first | omega | (simp only; omega)), (Wk.mk' id (by repeat' constructor) (by repeat' constructor) (injOK_id _) rfl rfl rfl)⟩
  · have : i = t.fl.length := by have := ge_of_dec hge; omega
    subst this
    repeat (first | refine VIf.tt ?_ | refine VIf.ff ?_)
    refine VFact.mk ⟨?_, rfl⟩ trivial
    have : tideB t = true := by
      simp only [Bool.not_eq_false', decide_eq_true_eq, decide_eq_false_iff_not, bne_eq_false_iff_eq] at e1 e2 e3 e4 e5 e6 e7 e8
      simp only [tideB, Bool.and_eq_true, decide_eq_true_eq, all_range]
      exact ⟨⟨⟨by omega, by omega, by omega, by omega, by omega, by omega, by omega, e5, e6, e7⟩, e1⟩, hz⟩
    rw [this]
end Go.Proofs.Ytlppfikkgcfaoaa

/- Contracts of the tide's laws: usable. -/
namespace Go.Proofs.Ytlppfikkgcfaoaa
open Go Go.V Go.RowKit
theorem usable_fn (t : TideS) (v : Value) (x1 y1 x2 y2 n1 n2 : Int) (M : Mem) (hv : FlsV M v t.fl) : V.Fn Try.prog 15 [tdV t v, pt x1 y1, pt x2 y2, .int .i64 n1, .int .i64 n2] M fun rs _ => ∃ b, rs = [.bool b] ∧ (b = true → GoodT t x1 y1 x2 y2 n1 n2) := by
  have hv' := hv
  obtain ⟨ad, c, rfl, hm, hrd⟩ := hv.get
  refine Fn.of_vc cxOK Try.func15 rfl rfl rfl ?_
  repeat (first | refine VIf.tt ?_ | refine VIf.ff ?_)
  refine VFn.mk _ (Few13_fn t _ x1 y1 x2 y2 n1 n2 M hv').2 ?_
  rintro rs M1 hM1 ⟨b, rfl⟩
  have bad : ∃ b', [Value.bool false] = [.bool b'] ∧ (b' = true → GoodT t x1 y1 x2 y2 n1 n2) := ⟨false, rfl, fun h => by cases h⟩
  repeat (first | refine VIf.tt ?_ | refine VIf.ff ?_)
  refine VIf.mk (fun e0 => ?_) (fun e0 => ?_)
  rotate_left
  · repeat (first | refine VIf.tt ?_ | refine VIf.ff ?_)
    repeat (first | refine VIf.tt ?_ | refine VIf.ff ?_)
    exact VFact.mk bad trivial
  repeat (first | refine VIf.tt ?_ | refine VIf.ff ?_)
  refine VFn.p (validR13_fn t _ M1 (hv'.le hM1)) ?_
  repeat (first | refine VIf.tt ?_ | refine VIf.ff ?_)
  refine VIf.mk (fun e1 => ?_) (fun e1 => ?_)
  rotate_left
  · repeat (first | refine VIf.tt ?_ | refine VIf.ff ?_)
    repeat (first | refine VIf.tt ?_ | refine VIf.ff ?_)
    exact VFact.mk bad trivial
  repeat (first | refine VIf.tt ?_ | refine VIf.ff ?_)
  refine VFn.p (Rect_fn x1 y1 x2 y2 M1) ?_
  repeat (first | refine VIf.tt ?_ | refine VIf.ff ?_)
  refine VIf.mk (fun e2 => ?_) (fun e2 => ?_)
  rotate_left
  · repeat (first | refine VIf.tt ?_ | refine VIf.ff ?_)
    repeat (first | refine VIf.tt ?_ | refine VIf.ff ?_)
    exact VFact.mk bad trivial
  repeat (first | refine VIf.tt ?_ | refine VIf.ff ?_)
  refine VFn.p (Time13_fn n1 n2 M1) ?_
  repeat (first | refine VIf.tt ?_ | refine VIf.ff ?_)
  refine VFact.mk ⟨_, rfl, fun h => ?_⟩ trivial
  have h := of_decide_eq_true h
  obtain ⟨p1, p2, hx, hy⟩ := rect_get e2
  exact ⟨e1, p1, p2, hx, hy, h.1, h.2.1, h.2.2⟩
end Go.Proofs.Ytlppfikkgcfaoaa

/- Contracts of the tide's laws: a place inside. -/
namespace Go.Proofs.Ytlppfikkgcfaoaa
open Go Go.V Go.RowKit
theorem inside_fn (x1 y1 x2 y2 a b : Int) (M : Mem) (h1 : placeB (x1, y1) = true) (h2 : placeB (x2, y2) = true) (hx : x1 ≤ x2) (hy : y1 ≤ y2) (ha : 0 ≤ a ∧ a < 4294967296) (hb : 0 ≤ b ∧ b < 4294967296) :
    V.Fn Try.prog 18 [pt x1 y1, pt x2 y2, .int .u32 a, .int .u32 b] M fun rs _ => ∃ x y, rs = [pt x y] ∧ x1 ≤ x ∧ x ≤ x2 ∧ y1 ≤ y ∧ y ≤ y2 := by
  have b1 := place13_bd h1
  have b2 := place13_bd h2
  refine Fn.of_vc cxOK Try.func18 rfl rfl rfl ?_
  have r1 := Int.tmod_nonneg (a := a) (x2 - x1 + 1) ha.1
  have r2 := Int.tmod_lt_of_pos a (b := x2 - x1 + 1) (by omega)
  have r3 := Int.tmod_nonneg (a := b) (y2 - y1 + 1) hb.1
  have r4 := Int.tmod_lt_of_pos b (b := y2 - y1 + 1) (by omega)
  repeat (first | refine VIf.tt ?_ | refine VIf.ff ?_)
  refine VDraw.go (by kernel_rfl) ?_
  repeat (first | refine VIf.tt ?_ | refine VIf.ff ?_)
  refine VArith.ok (by first | omega | (simp only; omega)) (by first | omega | (simp only; omega)) ?_
  repeat (first | refine VIf.tt ?_ | refine VIf.ff ?_)
  refine VArith.ok (by first | omega | (simp only; omega)) (by first | omega | (simp only; omega)) ?_
  repeat (first | refine VIf.tt ?_ | refine VIf.ff ?_)
  refine VArith.ok (by first | omega | (simp only; omega)) (by first | omega | (simp only; omega)) ?_
  repeat (first | refine VIf.tt ?_ | refine VIf.ff ?_)
  refine VDiv.mk (by omega) ?_
  repeat (first | refine VIf.tt ?_ | refine VIf.ff ?_)
  refine VArith.ok (by first | omega | (simp only; omega)) (by first | omega | (simp only; omega)) ?_
  repeat (first | refine VIf.tt ?_ | refine VIf.ff ?_)
  refine VArith.ok (by first | omega | (simp only; omega)) (by first | omega | (simp only; omega)) ?_
  repeat (first | refine VIf.tt ?_ | refine VIf.ff ?_)
  refine VArith.ok (by first | omega | (simp only; omega)) (by first | omega | (simp only; omega)) ?_
  repeat (first | refine VIf.tt ?_ | refine VIf.ff ?_)
  refine VArith.ok (by first | omega | (simp only; omega)) (by first | omega | (simp only; omega)) ?_
  repeat (first | refine VIf.tt ?_ | refine VIf.ff ?_)
  refine VDiv.mk (by omega) ?_
  repeat (first | refine VIf.tt ?_ | refine VIf.ff ?_)
  refine VArith.ok (by first | omega | (simp only; omega)) (by first | omega | (simp only; omega)) ?_
  repeat (first | refine VIf.tt ?_ | refine VIf.ff ?_)
  refine VFn.p (at_fn13 _ _ M) ?_
  repeat (first | refine VIf.tt ?_ | refine VIf.ff ?_)
  exact VFact.mk ⟨_, _, rfl, by omega, by omega, by omega, by omega⟩ trivial
end Go.Proofs.Ytlppfikkgcfaoaa

/- Contracts of the tide's reference: down, slots, blocks, joins. -/
namespace Go.Proofs.Ytlppfikkgcfaoaa
open Go Go.V Go.RowKit
theorem rdAt {M : Mem} {B : Nat} {cs : Array Value} {t : TypeId} (h : M B = some (.cells cs t (0, 0))) : ∀ (j : Nat) u, cs.toList[j]? = some u → M.cell ((⟨B, 0, none⟩ : Addr).add j) = some u := fun j _ hu => cellAt h j (by simpa using hu)
theorem At_is {t : TideS} {v : Value} {x y n : Int} {M : Mem} (hv : FlsV M v t.fl) (ht : tideB t = true) (hp : placeB (x, y) = true) (h1 : 0 ≤ n) (h2 : n ≤ 1000000000) : V.Fn Try.prog 17 [tdV t v, pt x y, .int .i64 n] M fun rs _ => rs = [flV (ofB t (x / 10000) (y / 10000) ((n - t.fr) / 3600)), .int .i64 0] :=
  (At_fn t v x y n M hv).mono fun rs M' _ h => by
    rw [ht, hp, decide_eq_true ⟨h1, h2⟩] at h
    exact h
theorem place_in {x1 y1 x2 y2 x y : Int} (h1 : placeB (x1, y1) = true) (h2 : placeB (x2, y2) = true) (a1 : x1 ≤ x) (a2 : x ≤ x2) (a3 : y1 ≤ y) (a4 : y ≤ y2) : placeB (x, y) = true := by
  have b1 := place13_bd h1
  have b2 := place13_bd h2
  simp only [placeB, isCb, Bool.and_eq_true, decide_eq_true_eq]
  omega
theorem Down01_fn (a b : Int) (M : Mem) (hb : 0 < b) (hb' : b ≤ 1000000000000) (h1 : -1000000000000 ≤ a) (h2 : a ≤ 1000000000000) : FnP Try.prog 55 [.int .i64 a, .int .i64 b] M [.int .i64 (a / b)] := by
  have hq := tdiv_bd hb h1 h2
  have hs := div_spec (a := a) hb
  have hm := Int.tmod_lt_of_pos a hb
  have hm' : -b < a.tmod b := by
    have h := Int.tmod_lt_of_pos (-a) hb
    rw [Int.neg_tmod] at h; omega
  have e : a.tdiv b * b = a - a.tmod b := by
    have := Int.tmod_add_mul_tdiv a b
    rw [Int.mul_comm]; omega
  have e2 : a - a.tdiv b * b = a.tmod b := by rw [e]; omega
  have hbf : decide (b < 0) = false := decide_eq_false (by omega)
  refine Fn.of_vc cxOK Try.func55 rfl rfl rfl ?_
  repeat (first | refine VIf.tt ?_ | refine VIf.ff ?_)
  refine VDiv.mk (by omega) ?_
  repeat (first | refine VIf.tt ?_ | refine VIf.ff ?_)
  refine VArith.ok (by first | omega | (simp only; omega)) (by first | omega | (simp only; omega)) ?_
  repeat (first | refine VIf.tt ?_ | refine VIf.ff ?_)
  refine VArith.ok (by first | omega | (simp only; omega)) (by first | omega | (simp only; omega)) ?_
  repeat (first | refine VIf.tt ?_ | refine VIf.ff ?_)
  refine VArith.ok (by first | omega | (simp only; omega)) (by first | omega | (simp only; omega)) ?_
  repeat (first | refine VIf.tt ?_ | refine VIf.ff ?_)
  refine VIf.mk (fun h => ?_) (fun h => ?_)
  · repeat (first | refine VIf.tt ?_ | refine VIf.ff ?_)
    refine VIf.mk (fun h => ?_) (fun h => ?_)
    · have hneg : a.tmod b < 0 := by
        rw [e2, hbf] at h; simpa using h
      have he := Int.emod_nonneg a (b := b) (by omega)
      have := hs.1 hneg
      repeat (first | refine VIf.tt ?_ | refine VIf.ff ?_)
      refine VArith.ok (by first | omega | (simp only; omega)) (by first | omega | (simp only; omega)) ?_
      repeat (first | refine VIf.tt ?_ | refine VIf.ff ?_)
      exact VFact.mk ⟨by rw [this.1], rfl⟩ trivial
    · have hpos : 0 ≤ a.tmod b := by
        rw [e2, hbf] at h; simpa using h
      have := hs.2 hpos
      repeat (first | refine VIf.tt ?_ | refine VIf.ff ?_)
      exact VFact.mk ⟨by rw [this.1], rfl⟩ trivial
  · rw [e2] at h
    have hz : a.tmod b = 0 := bne_eq_false_iff_eq.1 h
    have := hs.2 (by omega)
    repeat (first | refine VIf.tt ?_ | refine VIf.ff ?_)
    exact VFact.mk ⟨by rw [this.1], rfl⟩ trivial
theorem Block13_fn (n : Int) (M : Mem) (h1 : -1000000000000 ≤ n) (h2 : n ≤ 1000000000000) : FnP Try.prog 21 [.int .i64 n] M [.int .i64 (n / 10000)] := by
  refine Fn.of_vc cxOK Try.func21 rfl rfl rfl ?_
  repeat (first | refine VIf.tt ?_ | refine VIf.ff ?_)
  refine VFn.p (Down01_fn n 10000 M (by omega) (by omega) h1 h2) ?_
  repeat (first | refine VIf.tt ?_ | refine VIf.ff ?_)
  exact VFact.mk ⟨rfl, rfl⟩ trivial
theorem Slot13_fn (t : TideS) (v : Value) (n : Int) (M : Mem) (hv : FlsV M v t.fl) (h1 : 0 ≤ t.fr ∧ t.fr ≤ 1000000000) (h2 : 0 ≤ n ∧ n ≤ 1000000000) : FnP Try.prog 20 [tdV t v, .int .i64 n] M [.int .i64 ((n - t.fr) / 3600)] := by
  obtain ⟨ad, c, rfl, hm, hrd⟩ := hv.get
  refine Fn.of_vc cxOK Try.func20 rfl rfl rfl ?_
  repeat (first | refine VIf.tt ?_ | refine VIf.ff ?_)
  refine VArith.ok (by first | omega | (simp only; omega)) (by first | omega | (simp only; omega)) ?_
  repeat (first | refine VIf.tt ?_ | refine VIf.ff ?_)
  refine VFn.p (Down01_fn (n - t.fr) 3600 M (by omega) (by omega) (by omega) (by omega)) ?_
  repeat (first | refine VIf.tt ?_ | refine VIf.ff ?_)
  exact VFact.mk ⟨rfl, rfl⟩ trivial
theorem join13_fn (a b c d : Int) (M : Mem) : FnP Try.prog 91 [.agg #[.int .i64 a, .int .i64 b], .agg #[.int .i64 c, .int .i64 d]] M [.agg #[.int .i64 (min a c), .int .i64 (max b d)]] := by
  refine Fn.of_vc cxOK Try.func91 rfl rfl rfl ?_
  repeat (first | refine VIf.tt ?_ | refine VIf.ff ?_)
  exact VFact.mk ⟨rfl, rfl⟩ trivial
theorem Joined13_fn (a b : FlowS) (M : Mem) : FnP Try.prog 56 [flV a, flV b] M [flV (joinF a b)] := by
  refine Fn.of_vc cxOK Try.func56 rfl rfl rfl ?_
  repeat (first | refine VIf.tt ?_ | refine VIf.ff ?_)
  refine VDraw.go (by kernel_rfl) ?_
  repeat (first | refine VIf.tt ?_ | refine VIf.ff ?_)
  refine VFn.p (join13_fn _ _ _ _ M) ?_
  repeat (first | refine VIf.tt ?_ | refine VIf.ff ?_)
  refine VFn.p (join13_fn _ _ _ _ M) ?_
  repeat (first | refine VIf.tt ?_ | refine VIf.ff ?_)
  refine VFn.p (join13_fn _ _ _ _ M) ?_
  repeat (first | refine VIf.tt ?_ | refine VIf.ff ?_)
  exact VFact.mk ⟨rfl, rfl⟩ trivial
theorem ends13_fn (a b : FlowS) (first : Bool) (M : Mem) : FnP Try.prog 23 [flV a, flV b, .bool first] M [flV (if first = true then b else joinF a b)] := by
  refine Fn.of_vc cxOK Try.func23 rfl rfl rfl ?_
  repeat (first | refine VIf.tt ?_ | refine VIf.ff ?_)
  refine VIf.mk (fun h => ?_) (fun h => ?_)
  · subst h; exact VFact.mk ⟨rfl, rfl⟩ trivial
  · subst h
    repeat (first | refine VIf.tt ?_ | refine VIf.ff ?_)
    refine VFn.p (Joined13_fn a b M) ?_
    repeat (first | refine VIf.tt ?_ | refine VIf.ff ?_)
    exact VFact.mk ⟨rfl, rfl⟩ trivial
theorem floor13_fn (n : Int) (M : Mem) (h1 : -1000000000000 ≤ n) (h2 : n ≤ 1000000000000) : FnP Try.prog 32 [.int .i64 n] M [.int .i64 (n / 100)] := by
  have hq := tdiv_bd (a := n) (b := 100) (by omega) h1 h2
  have hs := div_spec (a := n) (b := 100) (by omega)
  refine Fn.of_vc cxOK Try.func32 rfl rfl rfl ?_
  repeat (first | refine VIf.tt ?_ | refine VIf.ff ?_)
  refine VDiv.mk (by omega) ?_
  repeat (first | refine VIf.tt ?_ | refine VIf.ff ?_)
  refine VArith.ok (by first | omega | (simp only; omega)) (by first | omega | (simp only; omega)) ?_
  repeat (first | refine VIf.tt ?_ | refine VIf.ff ?_)
  refine VDiv.mk (by omega) ?_
  repeat (first | refine VIf.tt ?_ | refine VIf.ff ?_)
  refine VIf.mk (fun h => ?_) (fun h => ?_)
  · have := hs.1 (of_decide_eq_true h)
    repeat (first | refine VIf.tt ?_ | refine VIf.ff ?_)
    refine VArith.ok (by first | omega | (simp only; omega)) (by first | omega | (simp only; omega)) ?_
    repeat (first | refine VIf.tt ?_ | refine VIf.ff ?_)
    exact VFact.mk ⟨by rw [this.1], rfl⟩ trivial
  · have := hs.2 (by have := of_decide_eq_false h; omega)
    repeat (first | refine VIf.tt ?_ | refine VIf.ff ?_)
    exact VFact.mk ⟨by rw [this.1], rfl⟩ trivial
end Go.Proofs.Ytlppfikkgcfaoaa

/- Contracts: region.Has. -/
namespace Go.Proofs.Ytlppfikkgcfaoaa
open Go Go.V Go.RowKit
theorem Has_is {v : Value} {ps : List Pt} {x y : Int} {M : Mem} {b : Bool} (hv : Pts M v ps) (hi64 : i64P ps) (hx : i64r x) (hy : i64r y) (hV : validB ps = true) (hP : placeB (x, y) = true) (hb : hasB ps (x, y) = b) : V.Fn Try.prog 33 [v, pt x y] M fun rs _ => rs = [.bool b, .int .i64 0] :=
  (Has_fn v ps x y M hv hi64 hx hy).mono fun rs M' _ h => by rw [h, hV, hP, hb]; rfl
theorem Valid_is {v : Value} {ps : List Pt} {M : Mem} {b : Bool} (hv : Pts M v ps) (hi64 : i64P ps) (hb : validB ps = b) : V.Fn Try.prog 35 [v] M fun rs _ => rs = [.bool b] :=
  (Valid_fn v ps M hv hi64).mono fun rs M' _ h => by rw [h, hb]
end Go.Proofs.Ytlppfikkgcfaoaa

/- Contracts: hull.Hull of one place; package mink's Shift. -/
namespace Go.Proofs.Ytlppfikkgcfaoaa
open Go Go.V Go.RowKit
theorem IndexP_fn (v : Value) (ps : List Pt) (fid : Nat) (g : Pt → Bool) (M : Mem) (hv : Pts M v ps) (hg : ∀ i, i < ps.length → ∀ M', FnP Try.prog fid [ptv (gp ps i)] M' [.bool (g (gp ps i))]) :
    V.Fn Try.prog 114 [v, .func (.func fid) #[] #[]] M fun rs _ => ∃ k : Int, rs = [.int .i64 k] ∧ (0 ≤ k ↔ ps.any g = true) := by
  obtain ⟨ad, c, rfl⟩ := hv.shape
  obtain ⟨_, hm, hrd⟩ := hv.cellsOf
  unfold maxLen at hm
  refine Fn.of_vc cxOK Try.func114 rfl rfl rfl ?_
  repeat (first | refine VIf.tt ?_ | refine VIf.ff ?_)
  refine VCode.loop cxOK Nat (fun i => ⟨[(0, .v (.slice ad ps.length c)), (1, .v (.func (.func fid) #[] #[])), (7, .v (.int .i64 ps.length)), (8, .v (.int .i64 i))], [], 0, M, 19, ⟨fun _ => none, none, fun _ => none⟩⟩)
    (fun i => i ≤ ps.length ∧ ∀ j, j < i → g (gp ps j) = false) (fun i => ps.length - i) 0 ⟨Nat.zero_le _, fun j hj => by simp at hj⟩ (Wk.mk' id (by repeat' constructor) (by repeat' constructor) (injOK_id _) rfl rfl rfl) ?_
  rintro i ⟨hi, hz⟩ m
  repeat (first | refine VIf.tt ?_ | refine VIf.ff ?_)
  refine VIf.mk (fun hlt => ?_) (fun hge => ?_)
  · have hlt := lt_of_dec hlt
    obtain ⟨ad', ead, hpi⟩ := hrd M (Mem.le_refl _) i hlt
    repeat (first | refine VIf.tt ?_ | refine VIf.ff ?_)
    refine VIdx.mk ad' i ead rfl hlt ?_
    repeat (first | refine VIf.tt ?_ | refine VIf.ff ?_)
    refine VReads.mk [.int .i64 (gp ps i).1, .int .i64 (gp ps i).2] rfl hpi ?_
    repeat (first | refine VIf.tt ?_ | refine VIf.ff ?_)
    refine VFn.p (hg i hlt M) ?_
    repeat (first | refine VIf.tt ?_ | refine VIf.ff ?_)
    refine VIf.mk (fun hc => ?_) (fun hc => ?_)
    · repeat (first | refine VIf.tt ?_ | refine VIf.ff ?_)
      refine VFact.mk ⟨i, rfl, ?_⟩ trivial
      have := any_getD (0, 0) g ps hlt hc
      simp [this]
    · repeat (first | refine VIf.tt ?_ | refine VIf.ff ?_)
      refine VArith.ok (by first | omega | (simp only; omega)) (by first | omega | (simp only; omega)) ?_
      refine ⟨i + 1, ⟨hlt, fun j hj => ?_⟩, (by first | omega | (simp only; omega)), (Wk.mk' id (by repeat' constructor) (by repeat' constructor) (injOK_id _) rfl rfl rfl)⟩
      by_cases e : j = i
      · subst e; exact hc
      · exact hz j (by omega)
  · have : i = ps.length := by have := ge_of_dec hge; omega
    subst this
    repeat (first | refine VIf.tt ?_ | refine VIf.ff ?_)
    refine VFact.mk ⟨-1, rfl, ?_⟩ trivial
    have := any_none (0, 0) g ps hz
    simp [this]
theorem ContainsP_fn (v : Value) (ps : List Pt) (fid : Nat) (g : Pt → Bool) (M : Mem) (hv : Pts M v ps) (hg : ∀ i, i < ps.length → ∀ M', FnP Try.prog fid [ptv (gp ps i)] M' [.bool (g (gp ps i))]) :
    V.Fn Try.prog 92 [v, .func (.func fid) #[] #[]] M fun rs _ => rs = [.bool (ps.any g)] := by
  obtain ⟨ad, c, rfl⟩ := hv.shape
  refine Fn.of_vc cxOK Try.func92 rfl rfl rfl ?_
  repeat (first | refine VIf.tt ?_ | refine VIf.ff ?_)
  refine VFn.mk _ (IndexP_fn _ ps fid g M hv hg) ?_
  rintro rs M1 hM1 ⟨k, rfl, hk⟩
  repeat (first | refine VIf.tt ?_ | refine VIf.ff ?_)
  refine VFact.mk (bool1 ?_) trivial
  rw [← hk]; simp
theorem Hull1_fn (p : Pt) (h1 : i64r p.1) (h2 : i64r p.2) (M : Mem) : FnP Try.prog 93 [ptv p] M [.bool (!placeB p)] := by
  refine Fn.of_vc cxOK Try.func93 rfl rfl rfl ?_
  repeat (first | refine VIf.tt ?_ | refine VIf.ff ?_)
  refine VFn.p (isPlace_fn _ _ _ h1 h2) ?_
  repeat (first | refine VIf.tt ?_ | refine VIf.ff ?_)
  exact VFact.mk ⟨rfl, rfl⟩ trivial
theorem Clone_fn (v : Value) (ps : List Pt) (M : Mem) (hv : Pts M v ps) (hn : 1 ≤ ps.length) (hn' : ps.length ≤ 100000) : V.Fn Try.prog 115 [v] M fun rs M' => ∃ u, rs = [u] ∧ Pts M' u ps := by
  obtain ⟨ad, c, rfl⟩ := hv.shape
  obtain ⟨_, hm, hrd⟩ := hv.cellsOf
  obtain ⟨ad', rfl, _⟩ := hrd M (Mem.le_refl _) 0 (by omega)
  refine Fn.of_vc cxOK Try.func115 rfl rfl rfl ?_
  repeat (first | refine VIf.tt ?_ | refine VIf.ff ?_)
  refine VSl.mk ps.length (cellsP ps) hv ?_
  repeat (first | refine VIf.tt ?_ | refine VIf.ff ?_)
  refine VFact.mk (by simp only; omega) ?_
  repeat (first | refine VIf.tt ?_ | refine VIf.ff ?_)
  refine VFz.mk fun x B M' hle hx => ?_
  repeat (first | refine VIf.tt ?_ | refine VIf.ff ?_)
  refine VFact.mk ⟨x, rfl, ?_⟩ trivial
  have e : SlAt M' 2 x (0 + ps.length) ([] ++ cellsP ps) := hx
  rw [Nat.zero_add, List.nil_append] at e
  exact e
theorem insert1_fn (v : Value) (f : Nat) (M : Mem) : FnP Try.prog 134 [v, .int .i64 0, .int .i64 1, .func (.func f) #[] #[]] M [] := by
  refine Fn.of_vc cxOK Try.func134 rfl rfl rfl ?_
  repeat (first | refine VIf.tt ?_ | refine VIf.ff ?_)
  refine VArith.ok (by first | omega | (simp only; omega)) (by first | omega | (simp only; omega)) ?_
  repeat (first | refine VIf.tt ?_ | refine VIf.ff ?_)
  refine VCode.loop cxOK Unit (fun _ => ⟨[(2, .v (.int .i64 1)), (8, .v (.int .i64 1))], [], 0, M, 53, ⟨fun _ => none, none, fun _ => none⟩⟩) (fun _ => True) (fun _ => 0) () trivial (Wk.mk' id (by repeat' constructor) (by repeat' constructor) (injOK_id _) rfl rfl rfl) ?_
  rintro _ _ m
  repeat (first | refine VIf.tt ?_ | refine VIf.ff ?_)
  exact VFact.mk ⟨rfl, rfl⟩ trivial
theorem pdq1_fn (v : Value) (f : Nat) (l : Int) (M : Mem) : FnP Try.prog 130 [v, .int .i64 0, .int .i64 1, .int .i64 l, .func (.func f) #[] #[]] M [] := by
  refine Fn.of_vc cxOK Try.func130 rfl rfl rfl ?_
  repeat (first | refine VIf.tt ?_ | refine VIf.ff ?_)
  refine VCode.loop cxOK Unit (fun _ => ⟨[(0, .v v), (1, .v (.int .i64 0)), (2, .v (.int .i64 1)), (4, .v (.func (.func f) #[] #[]))], [], 0, M, 148, ⟨fun _ => none, none, fun _ => none⟩⟩) (fun _ => True) (fun _ => 0) () trivial (Wk.mk' id (by repeat' constructor) (by repeat' constructor) (injOK_id _) rfl rfl rfl) ?_
  rintro _ _ m
  repeat (first | refine VIf.tt ?_ | refine VIf.ff ?_)
  refine VArith.ok (by first | omega | (simp only; omega)) (by first | omega | (simp only; omega)) ?_
  repeat (first | refine VIf.tt ?_ | refine VIf.ff ?_)
  refine VFn.p (insert1_fn _ _ _) ?_
  repeat (first | refine VIf.tt ?_ | refine VIf.ff ?_)
  exact VFact.mk ⟨rfl, rfl⟩ trivial
end Go.Proofs.Ytlppfikkgcfaoaa

/- Contract: the number of bits of one. -/
namespace Go.Proofs.Ytlppfikkgcfaoaa
open Go Go.V Go.RowKit
set_option maxRecDepth 100000 in
set_option maxHeartbeats 1000000 in
theorem len64_one (w : World) : Calls Try.prog 143 #[.int .u64 1] w fun e w' => e = .returned (.int .i64 1) ∧ w' = w := by
  go_enter Try.func143, Try.ntmps143
  go_wp2
  go_ret
  exact ⟨by kernel_rfl, rfl⟩
set_option maxRecDepth 100000 in
set_option maxHeartbeats 1000000 in
theorem len_one_any (w : World) : Calls Try.prog 131 #[.int .u64 1] w fun e w' => e = .returned (.int .i64 1) ∧ w' = w := by
  go_enter Try.func131, Try.ntmps131
  go_wp2_with (go_at_call 143; refine (len64_one _).mono ?_; rintro e w' ⟨rfl, rfl⟩)
  go_ret
  exact ⟨by kernel_rfl, rfl⟩
theorem FnP.of_same {P : Program} {f : Nat} {args : List Value} {M : Mem} {vs : List Value} (he : Enters P f) (h : ∀ W, Calls P f args.toArray W fun e w' => e = .returned (ret vs) ∧ w' = W) : FnP P f args M vs :=
  ⟨he, fun W hW => (h W).mono fun e w' ⟨h1, h2⟩ => ⟨vs, M, h1, h2 ▸ Below.refl _ _, Mem.le_refl _, h2 ▸ hW, fun _ _ => rfl, rfl, rfl⟩⟩
theorem Len1_fn (M : Mem) : FnP Try.prog 131 [.int .u64 1] M [.int .i64 1] :=
  FnP.of_same (enters_of Try.func131 (by kernel_rfl) rfl) len_one_any
end Go.Proofs.Ytlppfikkgcfaoaa

/- Contracts: hull.Hull of one place; package mink's Shift: the joins. -/
namespace Go.Proofs.Ytlppfikkgcfaoaa
open Go Go.V Go.RowKit
theorem sort1_fn (ad : Option Addr) (c f : Nat) (M : Mem) : FnP Try.prog 116 [.slice ad 1 c, .func (.func f) #[] #[]] M [] := by
  refine Fn.of_vc cxOK Try.func116 rfl rfl rfl ?_
  repeat (first | refine VIf.tt ?_ | refine VIf.ff ?_)
  refine VArith.ok (by first | omega | (simp only; omega)) (by first | omega | (simp only; omega)) ?_
  repeat (first | refine VIf.tt ?_ | refine VIf.ff ?_)
  refine VFn.p (Len1_fn _) ?_
  repeat (first | refine VIf.tt ?_ | refine VIf.ff ?_)
  refine VFn.p (pdq1_fn _ _ _ _) ?_
  repeat (first | refine VIf.tt ?_ | refine VIf.ff ?_)
  exact VFact.mk ⟨rfl, rfl⟩ trivial
theorem compact1_fn (ad : Option Addr) (c : Nat) (M : Mem) : FnP Try.prog 118 [.slice ad 1 c] M [.slice ad 1 c] := by
  refine Fn.of_vc cxOK Try.func118 rfl rfl rfl ?_
  repeat (first | refine VIf.tt ?_ | refine VIf.ff ?_)
  exact VFact.mk ⟨rfl, rfl⟩ trivial
theorem around1_fn (v : Value) (p : Pt) (M : Mem) (hv : Pts M v [p]) : V.Fn Try.prog 94 [v] M fun rs M' => ∃ u, rs = [u] ∧ Pts M' u [p] := by
  refine Fn.of_vc cxOK Try.func94 rfl rfl rfl ?_
  repeat (first | refine VIf.tt ?_ | refine VIf.ff ?_)
  refine VFn.mk _ (Clone_fn v [p] M hv (by simp) (by simp)) ?_
  rintro rs M1 hM1 ⟨u, rfl, hu⟩
  obtain ⟨ud, uc, rfl⟩ := hu.shape
  repeat (first | refine VIf.tt ?_ | refine VIf.ff ?_)
  refine VFn.p (sort1_fn _ _ _ _) ?_
  repeat (first | refine VIf.tt ?_ | refine VIf.ff ?_)
  refine VFn.p (compact1_fn _ _ _) ?_
  repeat (first | refine VIf.tt ?_ | refine VIf.ff ?_)
  exact VFact.mk ⟨_, rfl, hu⟩ trivial
theorem HullOne_fn (v : Value) (p : Pt) (M : Mem) (hv : Pts M v [p]) (h1 : i64r p.1) (h2 : i64r p.2) : V.Fn Try.prog 58 [v] M fun rs M' => if placeB p = true then ∃ u, rs = [u, .int .i64 0] ∧ Pts M' u [p] else rs = [.slice none 0 0, .int .i64 1] := by
  obtain ⟨ad, c, rfl⟩ := hv.shape
  refine Fn.of_vc cxOK Try.func58 rfl rfl rfl ?_
  repeat (first | refine VIf.tt ?_ | refine VIf.ff ?_)
  refine VFn.mk _ (ContainsP_fn _ [p] _ (fun p => !placeB p) M hv fun i hi M' => ?_) ?_
  · have : i = 0 := by simp at hi; omega
    subst this
    exact Hull1_fn p h1 h2 M'
  rintro rs M1 hM1 rfl
  repeat (first | refine VIf.tt ?_ | refine VIf.ff ?_)
  refine VIf.mk (fun h => ?_) (fun h => ?_)
  · repeat (first | refine VIf.tt ?_ | refine VIf.ff ?_)
    refine VFact.mk ?_ trivial
    have h : placeB p = false := by simpa using h
    simp only [h, Bool.false_eq_true, if_false]
  · have h : placeB p = true := by simpa using h
    repeat (first | refine VIf.tt ?_ | refine VIf.ff ?_)
    refine VFn.mk _ (around1_fn _ p M1 (hv.le hM1)) ?_
    rintro rs M2 hM2 ⟨u, rfl, hu⟩
    obtain ⟨ud, uc, rfl⟩ := hu.shape
    repeat (first | refine VIf.tt ?_ | refine VIf.ff ?_)
    refine VFact.mk ?_ trivial
    simp only [h, if_true]
    exact ⟨_, rfl, hu⟩
def moveP (q : Pt) (ps : List Pt) : List Pt := ps.map fun p => (p.1 + q.1, p.2 + q.2)
theorem take_map (q : Pt) (ps : List Pt) {i : Nat} (h : i < ps.length) : moveP q (ps.take (i + 1)) = moveP q (ps.take i) ++ [((gp ps i).1 + q.1, (gp ps i).2 + q.2)] := by
  unfold moveP
  rw [List.take_add_one, List.map_append]
  simp [gp, h]
/-- What Shift comes to. -/
def shiftB (ps : List Pt) (q : Pt) : Option (List Pt) := if (validB ps && placeB q) = true then (if validB (moveP q ps) = true then some (moveP q ps) else none) else none
end Go.Proofs.Ytlppfikkgcfaoaa

/- The comparison that hull.around sorts by, its worlds written out. -/
namespace Go.Proofs.Ytlppfikkgcfaoaa
open Go Go.RowKit Go.Sort
set_option maxHeartbeats 400000 in
theorem isNaN_any (x : Int) (w : World) :
    Calls Try.prog 122 #[.int .i64 x] w fun e w' => e = .returned (.bool false) ∧ w = w' := by
  go_enter Try.func122, Try.ntmps122
  go_wp2
  go_ret
  exact ⟨rfl, rfl⟩
set_option maxHeartbeats 400000 in
theorem cmpCompare_any (x y : Int) (w : World) :
    Calls Try.prog 106 #[.int .i64 x, .int .i64 y] w fun e w' => e = .returned (.int .i64 (cmpI x y)) ∧ w = w' := by
  go_enter Try.func106, Try.ntmps106
  go_wp2_with (go_at_call 122; refine (isNaN_any _ _).mono ?_; rintro e w' ⟨rfl, rfl⟩)
  all_goals
    go_ret
    exact ⟨by unfold cmpI; simp <;> omega, rfl⟩
set_option maxHeartbeats 400000 in
theorem cmpOr2_any (x y : Int) (w : World) (b : Nat) (h0 : w.cell? ⟨b, 0, none⟩ = some (.int .i64 x)) (h1 : w.cell? ⟨b, 1, none⟩ = some (.int .i64 y)) :
    Calls Try.prog 105 #[.slice (some ⟨b, 0, none⟩) 2 2] w fun e w' => e = .returned (.int .i64 (if x = 0 then y else x)) ∧ w = w' := by
  by_cases hx : x = 0
  · subst hx
    by_cases hy : y = 0
    · subst hy
      go_enter Try.func105, Try.ntmps105
      go_wp2
      go_rounds 3
      all_goals go_ret
      all_goals exact ⟨by simp, rfl⟩
    · have hy1 : (y == 0) = false := by simp [hy]
      have hy2 : (y != 0) = true := by simp [hy]
      go_enter Try.func105, Try.ntmps105
      go_wp2
      go_rounds 3
      all_goals go_ret
      all_goals exact ⟨by simp, rfl⟩
  · have hy2 : (x != 0) = true := by simp [hx]
    go_enter Try.func105, Try.ntmps105
    go_wp2
    go_rounds 2
    all_goals go_ret
    all_goals exact ⟨by simp [hx], rfl⟩
def cmpQ (ax ay bx by' : Int) : Int := if cmpI ax bx = 0 then cmpI ay by' else cmpI ax bx
theorem cmpOr2_is {x y r : Int} (hr : (if x = 0 then y else x) = r) (w : World) (b : Nat) (h0 : w.cell? ⟨b, 0, none⟩ = some (.int .i64 x)) (h1 : w.cell? ⟨b, 1, none⟩ = some (.int .i64 y)) :
    Calls Try.prog 105 #[.slice (some ⟨b, 0, none⟩) 2 2] w fun e w' => e = .returned (.int .i64 r) ∧ w = w' := hr ▸ cmpOr2_any x y w b h0 h1
set_option maxHeartbeats 2000000 in
set_option maxRecDepth 100000 in
theorem compare_any (ax ay bx by' r : Int) (hr : cmpQ ax ay bx by' = r) (w : World) :
    Calls Try.prog 76 #[.agg #[.int .i64 ax, .int .i64 ay], .agg #[.int .i64 bx, .int .i64 by']] w fun e w' => e = .returned (.int .i64 r) ∧ ∃ q os', w' = grow (w.drewN q) os' := by
  have h3 := fun W b => cmpOr2_is (x := cmpI ax bx) (y := cmpI ay by') hr W b
  clear hr
  go_enter Try.func76, Try.ntmps76
  go_wp2_with fail
  go_region_held3 (fun w' => w'.cell? ⟨w.heap.size, 0, none⟩ = some (.int .i64 ax) ∧ w'.cell? ⟨w.heap.size, 1, none⟩ = some (.int .i64 ay) ∧ w'.cell? ⟨w.heap.size + 1, 0, none⟩ = some (.int .i64 bx) ∧ w'.cell? ⟨w.heap.size + 1, 1, none⟩ = some (.int .i64 by')) 
   (first | go_keep | simp)
   (first | (go_at_call 106; refine (cmpCompare_any _ _ _).mono ?_; rintro e w' ⟨rfl, rfl⟩) | (go_at_call 105; refine (h3 _ _ (by go_cell) (by go_cell)).mono ?_; rintro e w' ⟨rfl, rfl⟩))
  go_wp2
  go_ret
  exact ⟨rfl, 1, #[.cells #[.int .i64 ax, .int .i64 ay] 30, .cells #[.int .i64 bx, .int .i64 by'] 30, .cells #[.int .i64 (cmpI ax bx), .int .i64 (cmpI ay by')] 3], by
    rw [alloc_eq_grow, alloc_eq_grow, alloc_eq_grow, grow_grow, grow_grow]; rfl⟩
set_option maxHeartbeats 1000000 in
theorem around1_any (ax ay bx by' r : Int) (hr : cmpQ ax ay bx by' = r) (w : World) :
    Calls Try.prog 117 #[.agg #[.int .i64 ax, .int .i64 ay], .agg #[.int .i64 bx, .int .i64 by']] w fun e w' => e = .returned (.int .i64 r) ∧ ∃ q os', w' = grow (w.drewN q) os' := by
  have h3 := fun W => compare_any ax ay bx by' r hr W
  clear hr
  go_enter Try.func117, Try.ntmps117
  go_wp2_with (go_at_call 76; refine (h3 _).mono ?_; rintro e w' ⟨rfl, q, os', rfl⟩)
  go_ret
  exact ⟨rfl, q, #[.cells #[.int .i64 ax, .int .i64 ay] 30, .cells #[.int .i64 bx, .int .i64 by'] 30] ++ os', by
    rw [alloc_eq_grow, alloc_eq_grow, show ∀ (a b : Array Obj), (grow (grow w a) b).drewN q = grow (grow (w.drewN q) a) b from fun _ _ => rfl, grow_grow, grow_grow]
    congr 1
    rw [← Array.append_assoc]; rfl⟩
end Go.Proofs.Ytlppfikkgcfaoaa

/- slices.SortFunc at places: the record of its family, and what it leaves in a row. -/
namespace Go.Proofs.Ytlppfikkgcfaoaa
open Go Go.V Go.RowKit Go.Sort Go.Shelf Go.Lib
/-- The numbers that the kit's names have here. -/
def ptRen : Ren where
  f := fun
    | 6 => 116
    | 14 => 130
    | 15 => 131
    | 20 => 134
    | 21 => 135
    | 22 => 136
    | 23 => 137
    | 24 => 138
    | 25 => 139
    | 26 => 140
    | 27 => 141
    | 28 => 142
    | 29 => 143
    | 46 => 144
    | 47 => 145
    | 48 => 146
    | 49 => 147
    | 50 => 148
    | 57 => 149
    | n => n
  t := fun
    | 0 => 0
    | 3 => 3
    | 4 => 4
    | 5 => 5
    | 9 => 9
    | 22 => 46
    | 25 => 96
    | 39 => 134
    | 45 => 150
    | 46 => 151
    | 50 => 114
    | 53 => 31
    | 55 => 158
    | 66 => 159
    | 70 => 163
    | 76 => 165
    | 77 => 88
    | 24 => 30
    | n => n
  g := fun n => n
/-- slices.SortFunc and all that it reaches lies here. -/
theorem ptLay : SlLaysF0.n6 Try.prog ptRen where
  mixed := rfl
  f6 := ⟨Try.f116.name, by kernel_rfl, Try.func116.trans (by kernel_rfl)⟩
  f14 := ⟨Try.f130.name, by kernel_rfl, Try.func130.trans (by kernel_rfl)⟩
  f15 := Try.func131.trans (by kernel_rfl)
  f20 := ⟨Try.f134.name, by kernel_rfl, Try.func134.trans (by kernel_rfl)⟩
  f21 := ⟨Try.f135.name, by kernel_rfl, Try.func135.trans (by kernel_rfl)⟩
  f22 := ⟨Try.f136.name, by kernel_rfl, Try.func136.trans (by kernel_rfl)⟩
  f23 := ⟨Try.f137.name, by kernel_rfl, Try.func137.trans (by kernel_rfl)⟩
  f24 := ⟨Try.f138.name, by kernel_rfl, Try.func138.trans (by kernel_rfl)⟩
  f25 := ⟨Try.f139.name, by kernel_rfl, Try.func139.trans (by kernel_rfl)⟩
  f26 := ⟨Try.f140.name, by kernel_rfl, Try.func140.trans (by kernel_rfl)⟩
  f27 := ⟨Try.f141.name, by kernel_rfl, Try.func141.trans (by kernel_rfl)⟩
  f28 := Try.func142.trans (by kernel_rfl)
  f29 := Try.func143.trans (by kernel_rfl)
  f46 := ⟨Try.f144.name, by kernel_rfl, Try.func144.trans (by kernel_rfl)⟩
  f47 := Try.func145.trans (by kernel_rfl)
  f48 := Try.func146.trans (by kernel_rfl)
  f49 := ⟨Try.f147.name, by kernel_rfl, Try.func147.trans (by kernel_rfl)⟩
  f50 := ⟨Try.f148.name, by kernel_rfl, Try.func148.trans (by kernel_rfl)⟩
  f57 := ⟨Try.f149.name, by kernel_rfl, Try.func149.trans (by kernel_rfl)⟩
  t0 := Try.underlying0
  a0 := Try.isAgg0
  z0 := Try.sizeOf0
  v0 := Try.zeroValue0
  t3 := Try.underlying3
  a3 := Try.isAgg3
  z3 := Try.sizeOf3
  v3 := Try.zeroValue3
  t4 := Try.underlying4
  a4 := Try.isAgg4
  z4 := Try.sizeOf4
  v4 := Try.zeroValue4
  t5 := Try.underlying5
  a5 := Try.isAgg5
  z5 := Try.sizeOf5
  v5 := Try.zeroValue5
  t9 := Try.underlying9
  a9 := Try.isAgg9
  z9 := Try.sizeOf9
  v9 := Try.zeroValue9
  t22 := Try.underlying46
  a22 := Try.isAgg46
  z22 := Try.sizeOf46
  v22 := Try.zeroValue46
  t25 := Try.underlying96
  a25 := Try.isAgg96
  z25 := Try.sizeOf96
  v25 := Try.zeroValue96
  t39 := Try.underlying134
  a39 := Try.isAgg134
  z39 := Try.sizeOf134
  v39 := Try.zeroValue134
  t45 := Try.underlying150
  a45 := Try.isAgg150
  z45 := Try.sizeOf150
  v45 := Try.zeroValue150
  t46 := Try.underlying151
  a46 := Try.isAgg151
  z46 := Try.sizeOf151
  v46 := Try.zeroValue151
  t50 := Try.underlying114
  a50 := Try.isAgg114
  z50 := Try.sizeOf114
  v50 := Try.zeroValue114
  t53 := Try.underlying31
  a53 := Try.isAgg31
  z53 := Try.sizeOf31
  v53 := Try.zeroValue31
  t55 := Try.underlying158
  a55 := Try.isAgg158
  z55 := Try.sizeOf158
  v55 := Try.zeroValue158
  t66 := Try.underlying159
  a66 := Try.isAgg159
  z66 := Try.sizeOf159
  v66 := Try.zeroValue159
  t70 := Try.underlying163
  a70 := Try.isAgg163
  z70 := Try.sizeOf163
  v70 := Try.zeroValue163
  t76 := Try.underlying165
  a76 := Try.isAgg165
  z76 := Try.sizeOf165
  v76 := Try.zeroValue165
  t77 := Try.underlying88
  a77 := Try.isAgg88
  z77 := Try.sizeOf88
  v77 := Try.zeroValue88
end Go.Proofs.Ytlppfikkgcfaoaa

/- A call of slices.SortFunc on a growing slice of one's own: the slice is sorted. -/
namespace Go.Proofs.Ytlppfikkgcfaoaa
open Go Go.V Go.RowKit
/-- A call that turns one growing slice alone. -/
theorem VCall.set {P : Program} {f : Nat} {args : List SV} {st : St} {K : SV → St → Prop} (he : Enters P f) {id E sz n : Nat} {xs ys : List Value} (hid : st.own id = some (.row E sz n xs)) (h1 : ∀ y ∈ ys, y.oneCell' = true)
    (h : ∀ n₀ W v ρ, slOf (ρ id) = v → W.ownsRow n₀ E sz v n xs → Calls P f (args.map (SV.den ρ)).toArray W fun e W' => e = .returned (.tuple #[]) ∧ W.grownBy W' (ob v) ∧ W'.ownsRow n₀ E sz v n ys)
    (hK : K (.v (.tuple #[])) { st with ow := (id, some (.row E sz n ys)) :: st.ow }) : VCall P f args st K := by
  refine ⟨he, fun n₀ w M₀ ρ W hS hsa hss => ?_⟩
  obtain ⟨g1, g2, g3, g4⟩ := hS.own id _ hid
  refine (h n₀ W (ρ id) ρ (ownsRow_isSl g3) g3).mono ?_
  rintro e W' ⟨rfl, k1, k2⟩
  refine ⟨.v (.tuple #[]), _, ρ, rfl, trivial, hS.set (e' := .row E sz n ys) hid k1 trivial ⟨k2, h1⟩, ?_, rfl, rfl, hK⟩
  exact fun d s hd => ⟨hss d s hd, s, hd, rfl⟩

section
open Go.Sort
def encP (p : Pt) : List Value := [.int .i64 p.1, .int .i64 p.2]
theorem cellsP_len (ps : List Pt) : (cellsP ps).length = ps.length * 2 := by
  induction ps with
  | nil => rfl
  | cons p l ih => simp only [cellsP, List.flatMap_cons, List.length_append] at *; simp [ih]; omega
theorem cellsP_enc (ps : List Pt) (t : Nat) (h : t < ps.length * 2) : (cellsP ps)[t]? = some (encP (ps.getD (t / 2) (0, 0)))[t % 2]! := by
  obtain ⟨g1, g2⟩ := cellsP_get ps (t / 2) (by omega)
  rcases Nat.mod_two_eq_zero_or_one t with e | e
  · rw [show 2 * (t / 2) = t by omega] at g1
    rw [e, g1]; rfl
  · rw [show 2 * (t / 2) + 1 = t by omega] at g2
    rw [e, g2]; rfl
theorem flatP (ps : List Pt) : flatK encP 2 ps.toArray = (cellsP ps).toArray := by
  refine ext_get! (by simp [cellsP_len]) fun t ht => ?_
  have ht' : t < ps.length * 2 := by simpa using ht
  rw [get_flatK _ _ _ _ (by simpa using ht')]
  have h1 := cellsP_enc ps t ht'
  have h2 : (cellsP ps).toArray[t]! = ((cellsP ps)[t]?).get! := by
    simp [getElem!_def]
    cases (cellsP ps)[t]? <;> rfl
  have h3 : (ps.toArray)[t / 2]! = ps.getD (t / 2) (0, 0) := by
    have : t / 2 < ps.length := by omega
    simp [getElem!_def, this]
  rw [h2, h1, h3]; rfl
theorem oneP {ps : List Pt} {y : Value} (hy : y ∈ cellsP ps) : y.oneCell' = true := by
  simp only [cellsP, List.mem_flatMap] at hy
  obtain ⟨p, _, hp⟩ := hy
  simp at hp
  rcases hp with rfl | rfl <;> rfl
/-- Less, by X, then by Y. -/
def ltP (a b : Pt) : Bool := ltOf cmpPt a b
theorem ltP_iff (a b : Pt) : ltP a b = true ↔ a.1 < b.1 ∨ a.1 = b.1 ∧ a.2 < b.2 := by
  obtain ⟨a1, a2⟩ := a
  obtain ⟨b1, b2⟩ := b
  simp only [ltP, ltOf, cmpPt, cmpP, cmpI, decide_eq_true_eq]
  repeat' split
  all_goals omega
theorem ltP_ff (a b : Pt) : ltP a b = false ↔ ¬ (a.1 < b.1 ∨ a.1 = b.1 ∧ a.2 < b.2) := by rw [← ltP_iff]; simp
theorem swoP : SWO ltP where
  irrefl x := by rw [ltP_ff]; omega
  trans x y z h1 h2 := by rw [ltP_iff] at *; omega
  ntrans x y z h1 h2 := by rw [ltP_ff] at *; omega
theorem totP (x y : Pt) (h1 : ltP x y = false) (h2 : ltP y x = false) : x = y := by
  rw [ltP_ff] at *
  apply Prod.ext <;> omega
/-- The places, sorted. -/
def sortP (ps : List Pt) : List Pt := ps.mergeSort fun x y => !ltP y x
theorem cmpLaysP (blk off size : Nat) (w : World) : CmpLays Try.prog 117 #[] encP 2 cmpPt blk off size w :=
  fun _ _ _ _ x y => around1_any x.1 x.2 y.1 y.2 _ (by simp only [cmpQ, cmpPt, cmpP]; by_cases h : cmpI x.1 y.1 = 0 <;> simp [h]) _
theorem sort_exact {n₀ : Nat} {W : World} {v : Value} {ps : List Pt} (hs : W.ownsRow n₀ 30 2 v ps.length (cellsP ps)) (hsz : ps.length < 4611686018427387904) :
    Calls Try.prog 116 #[v, .func (.func 117) #[] #[]] W fun e W' => e = .returned (.tuple #[]) ∧ W.grownBy W' (ob v) ∧ W'.ownsRow n₀ 30 2 v ps.length (cellsP (sortP ps)) := by
  obtain ⟨hlen, hcase⟩ := hs
  rcases hcase with ⟨rfl, h0⟩ | ⟨g, cap, cur, rfl, hg, hh, hnc, hcm, hcs, hct⟩
  · have hp : ps = [] := List.eq_nil_of_length_eq_zero h0
    subst hp
    refine (AnyF.slices_SortFunc_none ptLay none 0 _ W).mono ?_
    rintro e W' ⟨rfl, rfl⟩
    refine ⟨rfl, ⟨rfl, rfl, rfl, Nat.le_refl _, fun _ _ _ => rfl⟩, ?_, .inl ⟨rfl, rfl⟩⟩
    simp [sortP, cellsP]
  · have hlt : g < W.heap.size := (Array.getElem?_eq_some_iff.1 hh).1
    have hcur : ps.length * 2 ≤ cur.size := by rw [hcs]; exact Nat.mul_le_mul_right _ hnc
    have hH : HoldsK encP 2 W g 0 ps.toArray := by
      intro j hj
      rw [flatP] at hj ⊢
      have hj' : j < ps.length * 2 := by simpa [cellsP_len] using hj
      have h2 : id (cellsP ps).toArray[j]! = ((cellsP ps)[j]?).get! := by
        simp [getElem!_def]
        cases (cellsP ps)[j]? <;> rfl
      have h3 : cur[j]? = (cellsP ps)[j]? := by
        rw [← hct, List.getElem?_take, if_pos hj', Array.getElem?_toList]
      refine ⟨?_, ?_⟩
      · rw [h2, ← h3, Nat.zero_add]
        have : j < cur.size := by omega
        simp [World.cell?, hh, this]
      · simp [World.frozen?, hh]
    refine (AnyQ.slices_SortFunc_total ptLay 2 Try.isAgg30 Try.sizeOf30 encP (fun _ => rfl) (fun x v hv => by simp [encP] at hv; rcases hv with rfl | rfl <;> rfl) cmpPt swoP 117 #[] g 0 cap ps.toArray W
      (enters_of Try.func117 (by kernel_rfl) rfl) (cmpLaysP _ _ _ _) hH hlt (by simpa using hsz) (fun x y => totP x y)).mono ?_
    rintro e W' ⟨rfl, m, os, rfl⟩
    have hsl : (sortP ps).length = ps.length := List.length_mergeSort _
    have hrow : (sortWorldK encP 2 W g 0 m (ps.toArray.toList.mergeSort fun x y => !(ltOf cmpPt) y x).toArray os).heap[g]? = some (.cells (putCells id 0 (cellsP (sortP ps)).toArray cur) 30 (0, 0)) := by
      unfold sortWorldK putRowK putRow
      rw [flatP, heap_grow_old _ _ (by simp [mapBlock, Sort.ahead]; exact hlt)]
      simp only [mapBlock, Sort.ahead, Array.getElem?_modify, if_true]
      rw [hh]
      rfl
    refine ⟨rfl, ⟨rfl, rfl, rfl, ?_, ?_⟩, ?_, .inr ⟨g, cap, _, rfl, hg, hrow, hnc, hcm, ?_, ?_⟩⟩
    · simp [sortWorldK, grow, putRowK, putRow, mapBlock, Sort.ahead]
    · intro k hk hkg
      have hne : ¬ g = k := fun e => hkg (by subst e; rfl)
      unfold sortWorldK putRowK putRow
      rw [heap_grow_old _ _ (by simp [mapBlock, Sort.ahead]; exact hk)]
      simp only [mapBlock, Sort.ahead, Array.getElem?_modify, if_neg hne]
    · rw [cellsP_len, hsl]
    · simp [putCells, hcs]
    · apply List.ext_getElem?
      intro i
      rw [List.getElem?_take]
      by_cases hi : i < ps.length * 2
      · rw [if_pos hi]
        have h2 : (cellsP (sortP ps)).toArray[i]! = ((cellsP (sortP ps))[i]?).get! := by
          simp [getElem!_def]
          cases (cellsP (sortP ps))[i]? <;> rfl
        have h4 : i < (cellsP (sortP ps)).length := by rw [cellsP_len, hsl]; exact hi
        have h5 : i < cur.size := by omega
        simp only [putCells, Array.getElem?_toList, Array.getElem?_mapIdx, Nat.zero_le, Nat.zero_add, Nat.sub_zero, true_and, List.size_toArray, h4, if_true, id]
        rw [Array.getElem?_eq_getElem h5]
        simp [h4]
      · rw [if_neg hi, List.getElem?_eq_none (by rw [cellsP_len, hsl]; omega)]
end
theorem Sort_call {id : Nat} {st : St} {K : SV → St → Prop} {n : Nat} {xs : List Value} {ps : List Pt} (hid : st.own id = some (.row 30 2 n xs)) (hn : n = ps.length) (hx : xs = cellsP ps) (hsz : ps.length < 4611686018427387904)
    (hK : K (.v (.tuple #[])) { st with ow := (id, some (.row 30 2 ps.length (cellsP (sortP ps)))) :: st.ow }) :
    VCall Try.prog 116 [.row id, .clo 117 [] []] st K := by
  subst hn; subst hx
  refine VCall.set (enters_of Try.func116 (by kernel_rfl) rfl) hid (fun y hy => oneP hy) (fun n₀ W v ρ hv hs => ?_) hK
  have := sort_exact hs hsz
  subst hv
  exact this
end Go.Proofs.Ytlppfikkgcfaoaa

/- The plain law of sorting and of striking neighbours that are alike. -/
namespace Go.Proofs.Ytlppfikkgcfaoaa
open Go Go.V Go.RowKit
def keepB (ps : List Pt) (i : Nat) : Bool := i == 0 || gp ps i != gp ps (i - 1)
def comp (ps : List Pt) (k : Nat) : List Pt := ((List.range k).filter (keepB ps)).map (gp ps)
/-- Neighbours that are alike are struck. -/
def compactP (ps : List Pt) : List Pt := comp ps ps.length
theorem comp_succ (ps : List Pt) (k : Nat) : comp ps (k + 1) = if keepB ps k = true then comp ps k ++ [gp ps k] else comp ps k := by
  unfold comp
  rw [List.range_succ, List.filter_append]
  by_cases h : keepB ps k = true
  · simp [h]
  · simp [h]
theorem comp_len (ps : List Pt) : ∀ k, (comp ps k).length ≤ k
  | 0 => by simp [comp]
  | k + 1 => by
    have := comp_len ps k
    rw [comp_succ]
    split
    · simp; omega
    · omega
theorem comp_le (ps : List Pt) {j : Nat} : ∀ {k}, j ≤ k → (comp ps k).length + j ≤ (comp ps j).length + k
  | 0, h => by have : j = 0 := by omega
               subst this; omega
  | k + 1, h => by
    by_cases e : j = k + 1
    · subst e; omega
    · have := comp_le ps (j := j) (k := k) (by omega)
      rw [comp_succ]
      split
      · simp; omega
      · omega
theorem comp_all (ps : List Pt) : ∀ k, k ≤ ps.length → (∀ j, j < k → keepB ps j = true) → comp ps k = ps.take k
  | 0, _, _ => by simp [comp]
  | k + 1, hk, h => by
    rw [comp_succ, if_pos (h k (by omega)), comp_all ps k (by omega) (fun j hj => h j (by omega))]
    have : gp ps k = ps[k] := by simp [gp, List.getD_eq_getElem?_getD, List.getElem?_eq_getElem (show k < ps.length by omega)]
    rw [this, List.take_append_getElem]
/-- The row in the middle of it: what is kept, and what lay behind. -/
def midP (ps : List Pt) (j : Nat) : List Pt := comp ps j ++ ps.drop (comp ps j).length
theorem midP_len (ps : List Pt) {j : Nat} (h : j ≤ ps.length) : (midP ps j).length = ps.length := by
  have := comp_len ps j
  unfold midP; simp; omega
theorem midP_get (ps : List Pt) {j i : Nat} (h : (comp ps j).length ≤ i) : gp (midP ps j) i = gp ps i := by
  unfold gp midP
  simp only [List.getD_eq_getElem?_getD]
  rw [List.getElem?_append_right h, List.getElem?_drop]
  congr 2; omega
theorem midP_set (ps : List Pt) {j : Nat} (hj : j < ps.length) (hk : keepB ps j = true) : (midP ps j).set (comp ps j).length (gp ps j) = midP ps (j + 1) := by
  have := comp_len ps j
  unfold midP
  rw [comp_succ, if_pos hk, List.set_append_right _ _ (Nat.le_refl _), Nat.sub_self]
  have hlt : (comp ps j).length < ps.length := by omega
  rw [List.drop_eq_getElem_cons hlt, List.set_cons_zero]
  simp
theorem midP_skip (ps : List Pt) {j : Nat} (hk : keepB ps j = false) : midP ps j = midP ps (j + 1) := by
  unfold midP
  rw [comp_succ, if_neg (by rw [hk]; exact Bool.false_ne_true)]
theorem cellsP_put : ∀ (ys : List Pt) (i : Nat) (p : Pt), i < ys.length → rput (cellsP ys) (i * 2) [.int .i64 p.1, .int .i64 p.2] = cellsP (ys.set i p)
  | y :: ys, 0, p, _ => by simp [rput, cellsP]
  | y :: ys, i + 1, p, h => by
    have ih := cellsP_put ys i p (by simpa using h)
    have e : (i + 1) * 2 = i * 2 + 1 + 1 := by omega
    simp only [rput, cellsP, List.flatMap_cons, List.set_cons_succ, e, List.cons_append, List.nil_append, List.take_succ_cons, List.length_cons, List.length_nil] at ih ⊢
    rw [show i * 2 + 1 + 1 + (0 + 1 + 1) = i * 2 + (0 + 1 + 1) + 1 + 1 by omega, List.drop_succ_cons, List.drop_succ_cons, ih]
theorem cellsP_take (ys : List Pt) (k : Nat) : (cellsP ys).take (k * 2) = cellsP (ys.take k) := by
  induction ys generalizing k with
  | nil => simp [cellsP]
  | cons y ys ih =>
    cases k with
    | zero => simp [cellsP]
    | succ k =>
      have e : (k + 1) * 2 = k * 2 + 1 + 1 := by omega
      simp only [cellsP, List.flatMap_cons, List.take_succ_cons, e, List.cons_append, List.nil_append] at ih ⊢
      rw [ih]
theorem rput_take_off {xs ys : List Value} {off : Nat} (h : off ≤ xs.length) : (rput xs off ys).take off = xs.take off := by
  unfold rput
  rw [List.append_assoc, List.take_append_of_le_length (by simp; omega), List.take_take, Nat.min_self]
theorem compactP_short {ps : List Pt} (h : ps.length < 2) : compactP ps = ps := by
  match ps with
  | [] => rfl
  | [x] => rfl
theorem rowP_get (ys : List Pt) {i : Nat} (hi : i < ys.length) : ∀ j v, ([.int .i64 (gp ys i).1, .int .i64 (gp ys i).2] : List Value)[j]? = some v → (cellsP ys)[i * 2 + j]? = some v := by
  intro j v hv
  obtain ⟨g1, g2⟩ := cellsP_get ys i hi
  match j with
  | 0 => simp at hv; subst hv; rw [show i * 2 + 0 = 2 * i by omega]; exact g1
  | 1 => simp at hv; subst hv; rw [show i * 2 + 1 = 2 * i + 1 by omega]; exact g2
  | j + 2 => simp at hv
end Go.Proofs.Ytlppfikkgcfaoaa

/- slices.Compact and slices.Clone, walked where they are called. -/
namespace Go.Proofs.Ytlppfikkgcfaoaa
open Go Go.V Go.RowKit
theorem cellsP_length (ps : List Pt) : (cellsP ps).length = ps.length * 2 := cellsP_len ps
set_option maxHeartbeats 1000000 in
theorem Compact_call {n nt : Nat} {xs : List Value} {ps : List Pt} {M : Mem} {G : Gh} {K : SV → St → Prop} (hn : n = ps.length) (hx : xs = cellsP ps) (hsz : ps.length < 4611686018427387904)
    (hK : K (.row 0) ⟨[], [(0, some (.row 30 2 (compactP ps).length (cellsP (compactP ps))))], 1, M, nt, G⟩) :
    VCall Try.prog 118 [.row 0] ⟨[], [(0, some (.row 30 2 n xs))], 1, M, nt, G⟩ K := by
  subst hn; subst hx
  refine VCall.post ?_
  refine VCall.inline cxOK Try.func118 rfl rfl rfl [] [] trivial trivial ?_
  intro val f0
  repeat (first | refine VIf.tt ?_ | refine VIf.ff ?_)
  refine VIf.mk (fun h => ?_) (fun h => ?_)
  · have h := lt_of_dec h
    repeat (first | refine VIf.tt ?_ | refine VIf.ff ?_)
    refine VFact.mk rfl ?_
    repeat (first | refine VIf.tt ?_ | refine VIf.ff ?_)
    refine VFact.mk (fun _ => rfl) ?_
    have e : compactP ps = ps := compactP_short (by omega)
    exact ⟨_, ⟨[], [(0, some (.row 30 2 (compactP ps).length (cellsP (compactP ps))))], 1, M, nt, G⟩, ⟨⟨fun _ => 0, rfl, rfl, trivial, ⟨⟨rfl, rfl, rfl, by rw [e], by rw [e]⟩, trivial⟩, injOK_one _ _ _⟩, rfl, rfl, rfl⟩, hK⟩
  have h := ge_of_dec h
  repeat (first | refine VIf.tt ?_ | refine VIf.ff ?_)
  refine VCode.loopG cxOK (fun m => m = fun _ => none) rfl Nat (fun k => ⟨[(0, .row 0), (3, .v (.int .i64 k))], [(0, some (.row 30 2 ps.length (cellsP ps)))], 1, M, 61, ⟨fun _ => none, none, f0⟩⟩)
    (fun k => 1 ≤ k ∧ k ≤ ps.length ∧ ∀ j, j < k → keepB ps j = true) (fun k => ps.length - k) 1 ⟨Nat.le_refl _, Nat.le_of_succ_le h, fun j (hj : j < 1) => (Nat.lt_one_iff.1 hj).symm ▸ rfl⟩ (Wk.mk' id (by repeat' constructor) (by repeat' constructor) (injOK_id _) rfl rfl rfl) ?_
  rintro k ⟨hk1, hk2, hk3⟩ m rfl
  repeat (first | refine VIf.tt ?_ | refine VIf.ff ?_)
  refine VIf.mk (fun hlt => ?_) (fun hge => ?_)
  · have hlt := lt_of_dec hlt
    repeat (first | refine VIf.tt ?_ | refine VIf.ff ?_)
    refine VDraw.go (by kernel_rfl) ?_
    repeat (first | refine VIf.tt ?_ | refine VIf.ff ?_)
    refine VIdxR.mk k rfl hlt ?_
    repeat (first | refine VIf.tt ?_ | refine VIf.ff ?_)
    refine VCells.mk [.int .i64 (gp ps k).1, .int .i64 (gp ps k).2] rfl (rowP_get ps hlt) ?_
    repeat (first | refine VIf.tt ?_ | refine VIf.ff ?_)
    refine VArith.ok (by first | omega | (simp only; omega)) (by first | omega | (simp only; omega)) ?_
    repeat (first | refine VIf.tt ?_ | refine VIf.ff ?_)
    refine VIdxR.mk (k - 1) (by omega) (by omega) ?_
    repeat (first | refine VIf.tt ?_ | refine VIf.ff ?_)
    refine VCells.mk [.int .i64 (gp ps (k - 1)).1, .int .i64 (gp ps (k - 1)).2] rfl (rowP_get ps (by omega)) ?_
    repeat (first | refine VIf.tt ?_ | refine VIf.ff ?_)
    refine VIf.mk (fun hd => ?_) (fun hd => ?_)
    · -- alike
      have hkk : keepB ps k = false := by
        simp only [eqRes, Bool.and_eq_true, beq_iff_eq] at hd
        simp only [keepB, Bool.or_eq_false_iff, beq_eq_false_iff_ne, bne_eq_false_iff_eq]
        exact ⟨by omega, Prod.ext hd.1 hd.2⟩
      have hm : midP ps (k + 1) = ps := by
        rw [← midP_skip ps hkk]
        unfold midP
        rw [comp_all ps k hk2 hk3, List.length_take, Nat.min_eq_left hk2, List.take_append_drop]
      have hc : (comp ps (k + 1)).length = k := by
        rw [comp_succ, if_neg (by rw [hkk]; exact Bool.false_ne_true), comp_all ps k hk2 hk3, List.length_take, Nat.min_eq_left hk2]
      repeat (first | refine VIf.tt ?_ | refine VIf.ff ?_)
      refine VFact.mk (by omega) ?_
      repeat (first | refine VIf.tt ?_ | refine VIf.ff ?_)
      refine VBnd.mk k rfl hk2 ?_
      repeat (first | refine VIf.tt ?_ | refine VIf.ff ?_)
      refine VFact.mk hlt ?_
      repeat (first | refine VIf.tt ?_ | refine VIf.ff ?_)
      refine VCode.loopG cxOK (fun m => m = fun _ => none) rfl (Nat × Nat × List Value) (fun (⟨kk, k2, ys⟩ : Nat × Nat × List Value) => ⟨[(0, .row 0), (3, .v (.int .i64 kk)), (4, .row 1), (5, .v (.int .i64 k2))], [(0, some (.row 30 2 ps.length ys)), (1, some (.vw 2 0 k (ps.length - k)))], 2, M, 61, ⟨fun _ => none, none, f0⟩⟩)
        (fun (⟨kk, k2, ys⟩ : Nat × Nat × List Value) => 1 ≤ k2 ∧ k + k2 ≤ ps.length ∧ kk = (comp ps (k + k2)).length ∧ ys = cellsP (midP ps (k + k2)) ∧ kk + 1 ≤ k + k2) (fun (⟨_, k2, _⟩ : Nat × Nat × List Value) => ps.length - k2) (k, 1, cellsP ps) ⟨Nat.le_refl _, hlt, hc.symm, by rw [hm], Nat.le_refl _⟩ ?_ ?_
      · refine Wk.mk' (fun i => i) (by repeat' constructor) (by repeat' constructor) (injOK_id _) rfl rfl rfl
      rintro ⟨kk, k2, ys⟩ ⟨h1, h2, h3, h4, h5⟩ m rfl
      subst h4
      have hml := midP_len ps (j := k + k2) h2
      repeat (first | refine VIf.tt ?_ | refine VIf.ff ?_)
      refine VIf.mk (fun hl2 => ?_) (fun hg2 => ?_)
      · have hl2 := lt_of_dec hl2
        have hj : k + k2 < ps.length := by omega
        repeat (first | refine VIf.tt ?_ | refine VIf.ff ?_)
        refine VDraw.go (by kernel_rfl) ?_
        repeat (first | refine VIf.tt ?_ | refine VIf.ff ?_)
        refine VIdxR.mk k2 rfl hl2 ?_
        repeat (first | refine VIf.tt ?_ | refine VIf.ff ?_)
        refine VCells.mk [.int .i64 (gp ps (k + k2)).1, .int .i64 (gp ps (k + k2)).2] rfl ?_ ?_
        · rw [← midP_get ps (j := k + k2) (i := k + k2) (by omega)]
          exact rowP_get _ (by omega)
        repeat (first | refine VIf.tt ?_ | refine VIf.ff ?_)
        refine VArith.ok (by first | omega | (simp only; omega)) (by first | omega | (simp only; omega)) ?_
        repeat (first | refine VIf.tt ?_ | refine VIf.ff ?_)
        refine VIdxR.mk (k2 - 1) (by omega) (by omega) ?_
        repeat (first | refine VIf.tt ?_ | refine VIf.ff ?_)
        refine VCells.mk [.int .i64 (gp ps (k + (k2 - 1))).1, .int .i64 (gp ps (k + (k2 - 1))).2] rfl ?_ ?_
        · rw [← midP_get ps (j := k + k2) (i := k + (k2 - 1)) (by omega)]
          exact rowP_get _ (by omega)
        repeat (first | refine VIf.tt ?_ | refine VIf.ff ?_)
        refine VIf.mk (fun hd => ?_) (fun hd => ?_)
        · have hkj : keepB ps (k + k2) = true := by
            simp only [eqRes, Bool.not_eq_true', Bool.and_eq_false_iff, beq_eq_false_iff_ne] at hd
            simp only [keepB, Bool.or_eq_true, beq_iff_eq, bne_iff_ne]
            refine .inr fun e => ?_
            rw [show k + k2 - 1 = k + (k2 - 1) by omega] at e
            rw [e] at hd
            simp at hd
          repeat (first | refine VIf.tt ?_ | refine VIf.ff ?_)
          refine VIdxR.mk k2 rfl hl2 ?_
          repeat (first | refine VIf.tt ?_ | refine VIf.ff ?_)
          refine VCells.mk [.int .i64 (gp ps (k + k2)).1, .int .i64 (gp ps (k + k2)).2] rfl ?_ ?_
          · rw [← midP_get ps (j := k + k2) (i := k + k2) (by omega)]
            exact rowP_get _ (by omega)
          repeat (first | refine VIf.tt ?_ | refine VIf.ff ?_)
          refine VIdxR.mk kk rfl (by omega) ?_
          have hfit : kk * 2 + 2 ≤ (cellsP (midP ps (k + k2))).length := by rw [cellsP_length, hml]; omega
          repeat (first | refine VIf.tt ?_ | refine VIf.ff ?_)
          refine VFact.mk hfit ?_
          repeat (first | refine VIf.tt ?_ | refine VIf.ff ?_)
          refine VArith.ok (by first | omega | (simp only; omega)) (by first | omega | (simp only; omega)) ?_
          repeat (first | refine VIf.tt ?_ | refine VIf.ff ?_)
          refine VArith.ok (by first | omega | (simp only; omega)) (by first | omega | (simp only; omega)) ?_
          refine ⟨rfl, (kk + 1, k2 + 1, rput (cellsP (midP ps (k + k2))) (kk * 2) [.int .i64 (gp ps (k + k2)).1, .int .i64 (gp ps (k + k2)).2]), ⟨by omega, by omega, ?_, ?_, by omega⟩, ?_, (Wk.mk' id (by repeat' constructor) (by repeat' constructor) (injOK_id _) rfl rfl rfl)⟩
          · rw [show k + (k2 + 1) = k + k2 + 1 by omega, comp_succ, if_pos hkj]
            simp [h3]
          · rw [show k + (k2 + 1) = k + k2 + 1 by omega, ← midP_set ps hj hkj, ← h3, cellsP_put _ _ _ (by omega)]
          · show ps.length - (k2 + 1) < ps.length - k2
            omega
        · have hkj : keepB ps (k + k2) = false := by
            simp only [eqRes, Bool.not_eq_false', Bool.and_eq_true, beq_iff_eq] at hd
            simp only [keepB, Bool.or_eq_false_iff, beq_eq_false_iff_ne, bne_eq_false_iff_eq]
            rw [show k + k2 - 1 = k + (k2 - 1) by omega]
            exact ⟨by omega, Prod.ext hd.1 hd.2⟩
          repeat (first | refine VIf.tt ?_ | refine VIf.ff ?_)
          refine VArith.ok (by first | omega | (simp only; omega)) (by first | omega | (simp only; omega)) ?_
          refine ⟨rfl, (kk, k2 + 1, cellsP (midP ps (k + k2))), ⟨by omega, by omega, ?_, ?_, by omega⟩, ?_, (Wk.mk' id (by repeat' constructor) (by repeat' constructor) (injOK_id _) rfl rfl rfl)⟩
          · rw [show k + (k2 + 1) = k + k2 + 1 by omega, comp_succ, if_neg (by rw [hkj]; exact Bool.false_ne_true)]
            exact h3
          · rw [show k + (k2 + 1) = k + k2 + 1 by omega, ← midP_skip ps hkj]
          · show ps.length - (k2 + 1) < ps.length - k2
            omega
      · have : k + k2 = ps.length := by have := ge_of_dec hg2; omega
        rw [this] at h3 h5 hml ⊢
        have hkn : kk < ps.length := by omega
        repeat (first | refine VIf.tt ?_ | refine VIf.ff ?_)
        refine VFact.mk (by omega) ?_
        repeat (first | refine VIf.tt ?_ | refine VIf.ff ?_)
        refine VBnd.mk kk rfl (by omega) ?_
        repeat (first | refine VIf.tt ?_ | refine VIf.ff ?_)
        refine VFact.mk hkn ?_
        repeat (first | refine VIf.tt ?_ | refine VIf.ff ?_)
        refine VFact.mk ⟨by omega, by rw [cellsP_length, hml]; omega⟩ ?_
        repeat (first | refine VIf.tt ?_ | refine VIf.ff ?_)
        refine VBnd.mk kk rfl (by omega) ?_
        repeat (first | refine VIf.tt ?_ | refine VIf.ff ?_)
        refine VFact.mk rfl ?_
        repeat (first | refine VIf.tt ?_ | refine VIf.ff ?_)
        refine VFact.mk (fun _ => rfl) ?_
        refine ⟨_, ⟨[], [(0, some (.row 30 2 (compactP ps).length (cellsP (compactP ps))))], 1, M, nt, G⟩, ⟨⟨fun _ => 3, rfl, rfl, trivial, ⟨⟨rfl, rfl, rfl, ?_, ?_⟩, trivial⟩, injOK_one _ _ _⟩, rfl, rfl, rfl⟩, hK⟩
        · exact h3.symm
        · rw [rput_take_off (by rw [cellsP_length, hml]; omega), cellsP_take, h3]
          unfold midP
          rw [List.take_left]
          rfl
    · have hkk : keepB ps k = true := by
        simp only [eqRes, Bool.and_eq_false_iff, beq_eq_false_iff_ne] at hd
        simp only [keepB, Bool.or_eq_true, beq_iff_eq, bne_iff_ne]
        refine .inr fun e => ?_
        rw [e] at hd
        simp at hd
      repeat (first | refine VIf.tt ?_ | refine VIf.ff ?_)
      refine VArith.ok (by first | omega | (simp only; omega)) (by first | omega | (simp only; omega)) ?_
      refine ⟨rfl, k + 1, ⟨by omega, by omega, fun j hj => ?_⟩, (by first | omega | (simp only; omega)), (Wk.mk' id (by repeat' constructor) (by repeat' constructor) (injOK_id _) rfl rfl rfl)⟩
      by_cases e : j = k
      · subst e; exact hkk
      · exact hk3 j (by omega)
  · have : k = ps.length := by have := ge_of_dec hge; omega
    subst this
    repeat (first | refine VIf.tt ?_ | refine VIf.ff ?_)
    refine VFact.mk rfl ?_
    repeat (first | refine VIf.tt ?_ | refine VIf.ff ?_)
    refine VFact.mk (fun _ => rfl) ?_
    have e : compactP ps = ps := by
      unfold compactP
      rw [comp_all ps _ (Nat.le_refl _) hk3, List.take_length]
    exact ⟨_, ⟨[], [(0, some (.row 30 2 (compactP ps).length (cellsP (compactP ps))))], 1, M, nt, G⟩, ⟨⟨fun _ => 0, rfl, rfl, trivial, ⟨⟨rfl, rfl, rfl, by rw [e], by rw [e]⟩, trivial⟩, injOK_one _ _ _⟩, rfl, rfl, rfl⟩, hK⟩
end Go.Proofs.Ytlppfikkgcfaoaa
