import Derived.Test.YtegmjmdkhbibjaaGreatHa6
set_option linter.unusedVariables false
set_option linter.unusedSimpArgs false
/- Contracts of translate: Keeps. -/
namespace Go.Proofs.YtegmjmdkhbibjaaGreat
open Go Go.V Go.RowKit
def inBC (c e : ChartS) (k : Nat) : Bool := decide ((bLo c 0).1 ≤ (bLo e k).1) && decide ((bLo c 0).2 ≤ (bLo e k).2) && decide ((bHi e k).1 ≤ (bHi c (c.cs.length - 1)).1) && decide ((bHi e k).2 ≤ (bHi c (c.cs.length - 1)).2)
def anyT (c e : ChartS) (k : Nat) (g : CellS → Bool) : Bool := (List.range (touC e k c).length).any fun j => g (gce c.cs (gi (touC e k c) j).toNat)
def covC (c e : ChartS) (k : Nat) : Bool := (gce e.cs k).vd || (inBC c e k && !anyT c e k (·.vd) && !anyT c e k (fun x => decide (x.lo < (gce e.cs k).lo)) && !anyT c e k (fun x => decide (x.hi > (gce e.cs k).hi)))
def keepsC (c e : ChartS) : Bool := (List.range e.cs.length).all (covC c e)
theorem len_pos {c : ChartS} (h : frameC c) : 1 ≤ c.cs.length := by
  have h1 := h.1
  have := Int.mul_le_mul (show (1 : Int) ≤ c.w by omega) (show (1 : Int) ≤ c.h by omega) (by omega) (by omega)
  omega
theorem sqOK_of {c : ChartS} {i : Int} (h : validC c = true) (hi : 0 ≤ i ∧ i < c.cs.length) : sqOK c i = true := by unfold sqOK; rw [h, decide_eq_true hi]; rfl
theorem Square_is {c : ChartS} {a b d : Value} {i : Int} {M : Mem} (h : Cha M c a b d) (hv : validC c = true) (hi : 0 ≤ i ∧ i < c.cs.length) : V.Fn Tryz.prog 29 [chV c a b d, .int .i64 i] M fun rs _ => rs = [ptv (bLo c i), ptv (bHi c i), .int .i64 0] := by
  have := Square_fn c a b d i M h
  rw [sqOK_of hv hi, if_pos rfl] at this
  exact this
set_option maxRecDepth 20000 in
set_option maxHeartbeats 4000000 in
theorem Keeps_fn (c e : ChartS) (a b d a2 b2 d2 : Value) (M : Mem) (h : Cha M c a b d) (h2 : Cha M e a2 b2 d2) : V.Fn Tryz.prog 17 [chV c a b d, chV e a2 b2 d2] M fun rs _ => rs = if (validC c && validC e) = true then [.bool (keepsC c e), .int .i64 0] else [.bool false, .int .i64 1] := by
  have hA := areValid_fn c e a b d a2 b2 d2 M h h2
  obtain ⟨⟨ad, ka, ea⟩, ⟨bd, kb, eb⟩, dd, kd, ed⟩ := h.shape
  obtain ⟨⟨ad2, ka2, ea2⟩, ⟨bd2, kb2, eb2⟩, dd2, kd2, ed2⟩ := h2.shape
  subst ea; subst eb; subst ed; subst ea2; subst eb2; subst ed2
  refine Fn.of_vc cxOK Tryz.func17 rfl rfl rfl ?_
  repeat (first | refine VIf.tt ?_ | refine VIf.ff ?_)
  refine VFn.mk _ hA ?_
  rintro rs M1 hM1 rfl
  repeat (first | refine VIf.tt ?_ | refine VIf.ff ?_)
  refine VIf.mk (fun e1 => ?_) (fun e1 => ?_)
  · repeat (first | refine VIf.tt ?_ | refine VIf.ff ?_)
    exact VFact.mk (by rw [(Bool.not_eq_true' _).mp e1]; rfl) trivial
  have hVV := (Bool.not_eq_false' _).mp e1
  obtain ⟨hV1, hV2⟩ := Bool.and_eq_true _ _ ▸ hVV
  have hF1 := validC_frame hV1
  have hF2 := validC_frame hV2
  have hl1 := len_pos hF1
  have hc1 := hF1.1.2.2.2.2.1
  have hc2 := hF2.1.2.2.2.2.1
  repeat (first | refine VIf.tt ?_ | refine VIf.ff ?_)
  refine VFn.mk _ (Square_is (h.le hM1) hV1 ⟨Int.le_refl _, by omega⟩) ?_
  rintro rs M2 hM2 rfl
  have m2 := hM1.trans hM2
  repeat (first | refine VIf.tt ?_ | refine VIf.ff ?_)
  refine VArith.ok (by first | omega | (simp only; omega)) (by first | omega | (simp only; omega)) ?_
  repeat (first | refine VIf.tt ?_ | refine VIf.ff ?_)
  refine VFn.mk _ (Square_is (i := (c.cs.length : Int) - 1) (h.le m2) hV1 ⟨by omega, by omega⟩) ?_
  rintro rs M3 hM3 rfl
  have m3 := m2.trans hM3
  repeat (first | refine VIf.tt ?_ | refine VIf.ff ?_)
  refine VCode.frz [2, 6, 10] ?_
  repeat (first | refine VIf.tt ?_ | refine VIf.ff ?_)
  refine VFzB.mk fun z1 B2 M4 hM4 hB2 => ?_
  repeat (first | refine VIf.tt ?_ | refine VIf.ff ?_)
  refine VFzB.mk fun z2 B6 M5 hM5 hB6 => ?_
  repeat (first | refine VIf.tt ?_ | refine VIf.ff ?_)
  refine VFzB.mk fun z3 B10 M6 hM6 hB10 => ?_
  have hB2 : M4 B2 = some (.cells (chC c (.slice ad c.cs.length ka) (.slice bd c.bs.length kb) (.slice dd c.ls.length kd)) 26 (0, 0)) := hB2
  have hB6 : M5 B6 = some (.cells #[.int .i64 (bLo c 0).1, .int .i64 (bLo c 0).2] 46 (0, 0)) := hB6
  have hB10 : M6 B10 = some (.cells #[.int .i64 (bHi c (c.cs.length - 1)).1, .int .i64 (bHi c (c.cs.length - 1)).2] 46 (0, 0)) := hB10
  have m6 := m3.trans (hM4.trans (hM5.trans hM6))
  have g2 := hM6 _ _ (hM5 _ _ hB2)
  have g6 := hM6 _ _ hB6
  obtain ⟨_, _, e2', hlm, hrd⟩ := h2.cs.get
  cases e2'
  repeat (first | refine VIf.tt ?_ | refine VIf.ff ?_)
  refine VCode.loop cxOK (Nat × Mem) (fun (⟨k, M7⟩ : Nat × Mem) => ⟨[(2, .v (.pointer (some ⟨B2, 0, none⟩))), (3, .box 1 0), (6, .v (.pointer (some ⟨B6, 0, none⟩))), (10, .v (.pointer (some ⟨B10, 0, none⟩))), (43, .v (.slice ad2 e.cs.length ka2)), (44, .v (.int .i64 e.cs.length)), (45, .v (.int .i64 k))], [(1, some (.box 26 (chSV e (.slice ad2 e.cs.length ka2) (.slice bd2 e.bs.length kb2) (.slice dd2 e.ls.length kd2))))], 6, M7, 82, ⟨fun _ => none, none, fun _ => none⟩⟩)
    (fun (⟨k, M7⟩ : Nat × Mem) => (M6.le M7 ∧ k ≤ e.cs.length) ∧ ∀ j, j < k → covC c e j = true) (fun (⟨k, _⟩ : Nat × Mem) => e.cs.length - k) (0, M6) ⟨⟨Mem.le_refl _, Nat.zero_le _⟩, fun j hj => absurd hj (Nat.not_lt_zero _)⟩ (Wk.mk' id (by repeat' constructor) (by repeat' constructor) (injOK_id _) rfl rfl rfl) ?_
  rintro ⟨k, M7⟩ ⟨⟨hM7, hk⟩, hcov⟩ m
  have m7 := m6.trans hM7
  repeat (first | refine VIf.tt ?_ | refine VIf.ff ?_)
  refine VIf.mk (fun hlt => ?_) (fun hge => ?_)
  rotate_left
  · have : k = e.cs.length := by have := ge_of_dec hge; omega
    subst this
    repeat (first | refine VIf.tt ?_ | refine VIf.ff ?_)
    refine VFact.mk ?_ trivial
    rw [hVV, if_pos rfl]
    have : keepsC c e = true := all_true hcov
    rw [this]
  have hlt : k < e.cs.length := lt_of_dec hlt
  have hkk : (0 : Int) ≤ (k : Int) ∧ (k : Int) < e.cs.length := by omega
  have bad : covC c e k = false → ([.bool false, .int .i64 0] : List Value) = if (validC c && validC e) = true then [.bool (keepsC c e), .int .i64 0] else [.bool false, .int .i64 1] := fun hb => by
    rw [hVV, if_pos rfl]
    have : keepsC c e = false := all_false hlt hb
    rw [this]
  obtain ⟨ad', ead, _, hp⟩ := hrd M7 m7 k hlt
  repeat (first | refine VIf.tt ?_ | refine VIf.ff ?_)
  refine VIdx.mk ad' k ead rfl hlt ?_
  repeat (first | refine VIf.tt ?_ | refine VIf.ff ?_)
  refine VReads.mk [.int .i64 (gce e.cs k).lo, .int .i64 (gce e.cs k).hi, .int .i64 (gce e.cs k).dt, .bool (gce e.cs k).vd] rfl hp ?_
  repeat (first | refine VIf.tt ?_ | refine VIf.ff ?_)
  refine VIf.mk (fun hvd => ?_) (fun hvd => ?_)
  · repeat (first | refine VIf.tt ?_ | refine VIf.ff ?_)
    refine VArith.ok (by first | omega | (simp only; omega)) (by first | omega | (simp only; omega)) ?_
    refine ⟨(k + 1, M7), ⟨⟨hM7, hlt⟩, fun j hj => ?_⟩, (by first | omega | (simp only; omega)), (Wk.mk' id (by repeat' constructor) (by repeat' constructor) (injOK_id _) rfl rfl rfl)⟩
    by_cases ej : j = k
    · subst ej; unfold covC; rw [hvd]; rfl
    · exact hcov j (by omega)
  have hvd : (gce e.cs k).vd = false := hvd
  repeat (first | refine VIf.tt ?_ | refine VIf.ff ?_)
  refine VFn.mk _ (Square_is (h2.le m7) hV2 hkk) ?_
  rintro rs M8 hM8 rfl
  have m8 := m7.trans hM8
  have s8 := hM7.trans hM8
  repeat (first | refine VIf.tt ?_ | refine VIf.ff ?_)
  refine VReads.mk (chC c (.slice ad c.cs.length ka) (.slice bd c.bs.length kb) (.slice dd c.ls.length kd)).toList rfl (fun j u hj => cellAt (s8 _ _ g2) j (by simpa using hj)) ?_
  obtain ⟨t1, t2, t3⟩ := tc_of (e := c) (sqOK_of hV2 hkk)
  have F := Touched_fn c (.slice ad c.cs.length ka) (.slice bd c.bs.length kb) (.slice dd c.ls.length kd) (bLo e k) (bHi e k) M8 (h.le m8) t2 t3
  rw [t1, hV1] at F
  simp only [↓reduceIte] at F
  repeat (first | refine VIf.tt ?_ | refine VIf.ff ?_)
  refine VFn.mk _ F ?_
  rintro rs M9 hM9 ⟨u, rfl, hu⟩
  have hu : IntsV M9 u (touC e k c) := hu
  obtain ⟨ud, uc, rfl, _⟩ := hu.get
  repeat (first | refine VIf.tt ?_ | refine VIf.ff ?_)
  refine VFzB.mk fun y1 B14 M10 hM10 hB14 => ?_
  repeat (first | refine VIf.tt ?_ | refine VIf.ff ?_)
  refine VFzB.mk fun y2 B15 M11 hM11 hB15 => ?_
  repeat (first | refine VIf.tt ?_ | refine VIf.ff ?_)
  refine VFzB.mk fun y3 B17 M12 hM12 hB17 => ?_
  repeat (first | refine VIf.tt ?_ | refine VIf.ff ?_)
  refine VFzB.mk fun y4 B13 M13 hM13 hB13 => ?_
  have hB14 : M10 B14 = some (.cells #[.int .i64 (bLo e k).1, .int .i64 (bLo e k).2] 46 (0, 0)) := hB14
  have hB15 : M11 B15 = some (.cells #[.int .i64 (bHi e k).1, .int .i64 (bHi e k).2] 46 (0, 0)) := hB15
  have hB17 : M12 B17 = some (.cells #[.slice ud (touC e k c).length uc] 27 (0, 0)) := hB17
  have hB13 : M13 B13 = some (.cells #[.int .i64 (gce e.cs k).lo, .int .i64 (gce e.cs k).hi, .int .i64 (gce e.cs k).dt, .bool (gce e.cs k).vd] 56 (0, 0)) := hB13
  have n10 := hM11.trans (hM12.trans hM13)
  have n9 := hM10.trans n10
  have n11 := hM12.trans hM13
  have s9 := s8.trans (hM9.trans n9)
  have hin : ∀ j, j < (touC e k c).length → 0 ≤ gi (touC e k c) j ∧ gi (touC e k c) j < c.cs.length := fun j hj => touC_bd (i := (k : Int)) (c := e) (gi_mem hj)
  have K1 := keeps1_fn (bLo c 0) (bLo e k) (bHi e k) (bHi c (c.cs.length - 1)) B6 B14 B15 B10 M13 (s9 _ _ g6) (n10 _ _ hB14) (n11 _ _ hB15) (s9 _ _ hB10)
  have K2 := keeps2_fn c _ _ _ _ (touC e k c) B17 B2 M13 (hu.le n9) (hM13 _ _ hB17) (s9 _ _ g2) (h.cs.le (m8.trans (hM9.trans n9))) hin
  have K3 := keeps3_fn c (gce e.cs k) _ _ _ _ (touC e k c) B17 B2 B13 M13 (hu.le n9) (hM13 _ _ hB17) (s9 _ _ g2) hB13 (h.cs.le (m8.trans (hM9.trans n9))) hin
  have K4 := keeps4_fn c (gce e.cs k) _ _ _ _ (touC e k c) B17 B2 B13 M13 (hu.le n9) (hM13 _ _ hB17) (s9 _ _ g2) hB13 (h.cs.le (m8.trans (hM9.trans n9))) hin
  change FnP _ _ _ _ [.bool (inBC c e k)] at K1
  change FnP _ _ _ _ [.bool (!anyT c e k (·.vd))] at K2
  change FnP _ _ _ _ [.bool (!anyT c e k (fun x => decide (x.lo < (gce e.cs k).lo)))] at K3
  change FnP _ _ _ _ [.bool (!anyT c e k (fun x => decide (x.hi > (gce e.cs k).hi)))] at K4
  repeat (first | refine VIf.tt ?_ | refine VIf.ff ?_)
  refine VCode.loop cxOK Nat (fun i => ⟨[(2, .v (.pointer (some ⟨B2, 0, none⟩))), (3, .box 1 0), (6, .v (.pointer (some ⟨B6, 0, none⟩))), (10, .v (.pointer (some ⟨B10, 0, none⟩))), (43, .v (.slice ad2 e.cs.length ka2)), (44, .v (.int .i64 e.cs.length)), (45, .v (.int .i64 k)), (71, .row 10), (72, .v (.int .i64 4)), (73, .v (.int .i64 i))],
      [(10, some (.row 28 1 4 [.func (.func 35) #[] #[.pointer (some ⟨B6, 0, none⟩), .pointer (some ⟨B14, 0, none⟩), .pointer (some ⟨B15, 0, none⟩), .pointer (some ⟨B10, 0, none⟩)], .func (.func 36) #[] #[.pointer (some ⟨B17, 0, none⟩), .pointer (some ⟨B2, 0, none⟩)], .func (.func 39) #[] #[.pointer (some ⟨B17, 0, none⟩), .pointer (some ⟨B2, 0, none⟩), .pointer (some ⟨B13, 0, none⟩)], .func (.func 41) #[] #[.pointer (some ⟨B17, 0, none⟩), .pointer (some ⟨B2, 0, none⟩), .pointer (some ⟨B13, 0, none⟩)]])), (1, some (.box 26 (chSV e (.slice ad2 e.cs.length ka2) (.slice bd2 e.bs.length kb2) (.slice dd2 e.ls.length kd2))))], 11, M13, 82, ⟨fun _ => none, none, fun _ => none⟩⟩)
    (fun i => i ≤ 4 ∧ (0 < i → inBC c e k = true) ∧ (1 < i → (!anyT c e k (·.vd)) = true) ∧ (2 < i → (!anyT c e k (fun x => decide (x.lo < (gce e.cs k).lo))) = true) ∧ (3 < i → (!anyT c e k (fun x => decide (x.hi > (gce e.cs k).hi))) = true)) (fun i => 4 - i) 0
    ⟨by decide, fun h => absurd h (by decide), fun h => absurd h (by decide), fun h => absurd h (by decide), fun h => absurd h (by decide)⟩ (Wk.mk' id (by repeat' constructor) (by repeat' constructor) (injOK_id _) rfl rfl rfl) ?_
  rintro i ⟨hi, b1, b2, b3, b4⟩ mm
  repeat (first | refine VIf.tt ?_ | refine VIf.ff ?_)
  refine VIf.mk (fun hli => ?_) (fun hgi => ?_)
  · have hli : i < 4 := by have := of_decide_eq_true hli; omega
    have hc4 : i = 0 ∨ i = 1 ∨ i = 2 ∨ i = 3 := by omega
    rcases hc4 with rfl | rfl | rfl | rfl
    · repeat (first | refine VIf.tt ?_ | refine VIf.ff ?_)
      refine VIdxR.mk 0 rfl (by decide) ?_
      repeat (first | refine VIf.tt ?_ | refine VIf.ff ?_)
      refine VCells.mk [.func (.func 35) #[] #[.pointer (some ⟨B6, 0, none⟩), .pointer (some ⟨B14, 0, none⟩), .pointer (some ⟨B15, 0, none⟩), .pointer (some ⟨B10, 0, none⟩)]] rfl (one_get rfl) ⟨_, rfl, ?_⟩
      repeat (first | refine VIf.tt ?_ | refine VIf.ff ?_)
      refine VFn.p K1 ?_
      repeat (first | refine VIf.tt ?_ | refine VIf.ff ?_)
      refine VIf.mk (fun hb => ?_) (fun hb => ?_)
      · have hb : (inBC c e k) = false := (Bool.not_eq_true' _).mp hb
        repeat (first | refine VIf.tt ?_ | refine VIf.ff ?_)
        exact VFact.mk (bad (by unfold covC; rw [hvd, hb]; simp)) trivial
      have hb : (inBC c e k) = true := (Bool.not_eq_false' _).mp hb
      repeat (first | refine VIf.tt ?_ | refine VIf.ff ?_)
      refine VArith.ok (by first | omega | (simp only; omega)) (by first | omega | (simp only; omega)) ?_
      refine ⟨1, ⟨by decide, fun h => hb, fun h => absurd h (by decide), fun h => absurd h (by decide), fun h => absurd h (by decide)⟩, by decide, (Wk.mk' id (by repeat' constructor) (by repeat' constructor) (injOK_id _) rfl rfl rfl)⟩
    · repeat (first | refine VIf.tt ?_ | refine VIf.ff ?_)
      refine VIdxR.mk 1 rfl (by decide) ?_
      repeat (first | refine VIf.tt ?_ | refine VIf.ff ?_)
      refine VCells.mk [.func (.func 36) #[] #[.pointer (some ⟨B17, 0, none⟩), .pointer (some ⟨B2, 0, none⟩)]] rfl (one_get rfl) ⟨_, rfl, ?_⟩
      repeat (first | refine VIf.tt ?_ | refine VIf.ff ?_)
      refine VFn.p K2 ?_
      repeat (first | refine VIf.tt ?_ | refine VIf.ff ?_)
      refine VIf.mk (fun hb => ?_) (fun hb => ?_)
      · have hb : (!anyT c e k (·.vd)) = false := (Bool.not_eq_true' _).mp hb
        repeat (first | refine VIf.tt ?_ | refine VIf.ff ?_)
        exact VFact.mk (bad (by unfold covC; rw [hvd, hb]; simp)) trivial
      have hb : (!anyT c e k (·.vd)) = true := (Bool.not_eq_false' _).mp hb
      repeat (first | refine VIf.tt ?_ | refine VIf.ff ?_)
      refine VArith.ok (by first | omega | (simp only; omega)) (by first | omega | (simp only; omega)) ?_
      refine ⟨2, ⟨by decide, fun h => b1 (by decide), fun h => hb, fun h => absurd h (by decide), fun h => absurd h (by decide)⟩, by decide, (Wk.mk' id (by repeat' constructor) (by repeat' constructor) (injOK_id _) rfl rfl rfl)⟩
    · repeat (first | refine VIf.tt ?_ | refine VIf.ff ?_)
      refine VIdxR.mk 2 rfl (by decide) ?_
      repeat (first | refine VIf.tt ?_ | refine VIf.ff ?_)
      refine VCells.mk [.func (.func 39) #[] #[.pointer (some ⟨B17, 0, none⟩), .pointer (some ⟨B2, 0, none⟩), .pointer (some ⟨B13, 0, none⟩)]] rfl (one_get rfl) ⟨_, rfl, ?_⟩
      repeat (first | refine VIf.tt ?_ | refine VIf.ff ?_)
      refine VFn.p K3 ?_
      repeat (first | refine VIf.tt ?_ | refine VIf.ff ?_)
      refine VIf.mk (fun hb => ?_) (fun hb => ?_)
      · have hb : (!anyT c e k (fun x => decide (x.lo < (gce e.cs k).lo))) = false := (Bool.not_eq_true' _).mp hb
        repeat (first | refine VIf.tt ?_ | refine VIf.ff ?_)
        exact VFact.mk (bad (by unfold covC; rw [hvd, hb]; simp)) trivial
      have hb : (!anyT c e k (fun x => decide (x.lo < (gce e.cs k).lo))) = true := (Bool.not_eq_false' _).mp hb
      repeat (first | refine VIf.tt ?_ | refine VIf.ff ?_)
      refine VArith.ok (by first | omega | (simp only; omega)) (by first | omega | (simp only; omega)) ?_
      refine ⟨3, ⟨by decide, fun h => b1 (by decide), fun h => b2 (by decide), fun h => hb, fun h => absurd h (by decide)⟩, by decide, (Wk.mk' id (by repeat' constructor) (by repeat' constructor) (injOK_id _) rfl rfl rfl)⟩
    · repeat (first | refine VIf.tt ?_ | refine VIf.ff ?_)
      refine VIdxR.mk 3 rfl (by decide) ?_
      repeat (first | refine VIf.tt ?_ | refine VIf.ff ?_)
      refine VCells.mk [.func (.func 41) #[] #[.pointer (some ⟨B17, 0, none⟩), .pointer (some ⟨B2, 0, none⟩), .pointer (some ⟨B13, 0, none⟩)]] rfl (one_get rfl) ⟨_, rfl, ?_⟩
      repeat (first | refine VIf.tt ?_ | refine VIf.ff ?_)
      refine VFn.p K4 ?_
      repeat (first | refine VIf.tt ?_ | refine VIf.ff ?_)
      refine VIf.mk (fun hb => ?_) (fun hb => ?_)
      · have hb : (!anyT c e k (fun x => decide (x.hi > (gce e.cs k).hi))) = false := (Bool.not_eq_true' _).mp hb
        repeat (first | refine VIf.tt ?_ | refine VIf.ff ?_)
        exact VFact.mk (bad (by unfold covC; rw [hvd, hb]; simp)) trivial
      have hb : (!anyT c e k (fun x => decide (x.hi > (gce e.cs k).hi))) = true := (Bool.not_eq_false' _).mp hb
      repeat (first | refine VIf.tt ?_ | refine VIf.ff ?_)
      refine VArith.ok (by first | omega | (simp only; omega)) (by first | omega | (simp only; omega)) ?_
      refine ⟨4, ⟨by decide, fun h => b1 (by decide), fun h => b2 (by decide), fun h => b3 (by decide), fun h => hb⟩, by decide, (Wk.mk' id (by repeat' constructor) (by repeat' constructor) (injOK_id _) rfl rfl rfl)⟩
  · have : i = 4 := by have := of_decide_eq_false hgi; omega
    subst this
    repeat (first | refine VIf.tt ?_ | refine VIf.ff ?_)
    refine VArith.ok (by first | omega | (simp only; omega)) (by first | omega | (simp only; omega)) ?_
    refine ⟨(k + 1, M13), ⟨⟨s9, hlt⟩, fun j hj => ?_⟩, (by first | omega | (simp only; omega)), (Wk.mk' id (by repeat' constructor) (by repeat' constructor) (injOK_id _) rfl rfl rfl)⟩
    by_cases ej : j = k
    · subst ej
      unfold covC
      rw [hvd, b1 (by decide), b2 (by decide), b3 (by decide), b4 (by decide)]
      rfl
    · exact hcov j (by omega)
end Go.Proofs.YtegmjmdkhbibjaaGreat

/- The reference's charts: Valid. -/
namespace Go.Proofs.YtegmjmdkhbibjaaGreat
open Go Go.V Go.RowKit
def in15B (n lo hi : Int) : Bool := decide (n ≥ lo) && decide (n ≤ hi)
theorem in15B_iff {n lo hi : Int} : in15B n lo hi = true ↔ lo ≤ n ∧ n ≤ hi := by simp [in15B]
theorem in15_fn (n lo hi : Int) (M : Mem) : FnP Tryz.prog 59 [.int .i64 n, .int .i64 lo, .int .i64 hi] M [.bool (in15B n lo hi)] := by
  refine Fn.of_vc cxOK Tryz.func59 rfl rfl rfl ?_
  repeat (first | refine VIf.tt ?_ | refine VIf.ff ?_)
  refine VIf.mk (fun h => ?_) (fun h => ?_)
  · repeat (first | refine VIf.tt ?_ | refine VIf.ff ?_)
    exact VFact.mk ⟨by unfold in15B; rw [h]; rfl, rfl⟩ trivial
  · repeat (first | refine VIf.tt ?_ | refine VIf.ff ?_)
    exact VFact.mk ⟨by unfold in15B; rw [h]; rfl, rfl⟩ trivial
theorem Cell15_fn (c : CellS) (M : Mem) : FnP Tryz.prog 47 [.agg #[.int .i64 c.lo, .int .i64 c.hi, .int .i64 c.dt, .bool c.vd]] M [.bool (cellOK c)] := by
  have bad : ¬ cellP c → cellOK c = false := fun h => decide_eq_false h
  refine Fn.of_vc cxOK Tryz.func47 rfl rfl rfl ?_
  repeat (first | refine VIf.tt ?_ | refine VIf.ff ?_)
  refine VFn.p (in15_fn _ _ _ _) ?_
  repeat (first | refine VIf.tt ?_ | refine VIf.ff ?_)
  refine VIf.mk (fun h1 => ?_) (fun h1 => ?_)
  rotate_left
  · repeat (first | refine VIf.tt ?_ | refine VIf.ff ?_)
    refine VFact.mk ⟨?_, rfl⟩ trivial
    rw [bad (fun h => by rw [in15B_iff.2 ⟨h.1, h.2.1⟩] at h1; cases h1)]
  have h1 := in15B_iff.1 h1
  repeat (first | refine VIf.tt ?_ | refine VIf.ff ?_)
  refine VIf.mk (fun h2 => ?_) (fun h2 => ?_)
  rotate_left
  · have h2 := of_decide_eq_false h2
    repeat (first | refine VIf.tt ?_ | refine VIf.ff ?_)
    refine VFact.mk ⟨?_, rfl⟩ trivial
    rw [bad (fun h => by unfold cellP at h; omega)]
  have h2 := of_decide_eq_true h2
  repeat (first | refine VIf.tt ?_ | refine VIf.ff ?_)
  refine VFn.p (in15_fn _ _ _ _) ?_
  repeat (first | refine VIf.tt ?_ | refine VIf.ff ?_)
  refine VFact.mk ⟨?_, rfl⟩ trivial
  have : cellOK c = in15B c.dt 0 1000000000 := by
    rw [Bool.eq_iff_iff, in15B_iff]
    unfold cellOK
    rw [decide_eq_true_iff]
    unfold cellP
    omega
  rw [this]
theorem pl15 (p : Pt) (M : Mem) : FnP Tryz.prog 25 [ptv p] M [.bool (placeB p)] := Place_fn p.1 p.2 M
set_option maxRecDepth 20000 in
set_option maxHeartbeats 2000000 in
theorem Path15_fn (l : LinS) (v : Value) (M : Mem) (hv : Pts M v l.ps) : FnP Tryz.prog 60 [.agg #[.int .i64 l.id, v]] M [.bool (pathOK l)] := by
  obtain ⟨ad, c, rfl⟩ := hv.shape
  obtain ⟨_, hm, hrd⟩ := hv.cellsOf
  unfold maxLen at hm
  refine Fn.of_vc cxOK Tryz.func60 rfl rfl rfl ?_
  repeat (first | refine VIf.tt ?_ | refine VIf.ff ?_)
  refine VFn.p (in15_fn _ _ _ _) ?_
  repeat (first | refine VIf.tt ?_ | refine VIf.ff ?_)
  refine VIf.mk (fun h1 => ?_) (fun h1 => ?_)
  · repeat (first | refine VIf.tt ?_ | refine VIf.ff ?_)
    refine VFact.mk ⟨?_, rfl⟩ trivial
    rw [pathOK_id (by
      cases hb : idOK l.id with
      | false => rfl
      | true => rw [in15B_iff.2 (idOK_iff.1 hb)] at h1; cases h1)]
  have h1 := in15B_iff.1 ((Bool.not_eq_false' _).mp h1)
  repeat (first | refine VIf.tt ?_ | refine VIf.ff ?_)
  refine VFn.p (in15_fn _ _ _ _) ?_
  repeat (first | refine VIf.tt ?_ | refine VIf.ff ?_)
  refine VIf.mk (fun h2 => ?_) (fun h2 => ?_)
  · repeat (first | refine VIf.tt ?_ | refine VIf.ff ?_)
    refine VFact.mk ⟨?_, rfl⟩ trivial
    rw [pathOK_len (fun h => by rw [in15B_iff.2 ⟨by omega, by omega⟩] at h2; cases h2)]
  have h2 := in15B_iff.1 ((Bool.not_eq_false' _).mp h2)
  have bad : ∀ i, i < l.ps.length → keepB l.ps i = false → pathOK l = false := fun i hi hk => by
    unfold pathOK; rw [all_false hi hk, Bool.and_false]
  repeat (first | refine VIf.tt ?_ | refine VIf.ff ?_)
  refine VCode.loop cxOK Nat (fun i => ⟨[(1, .box 0 0), (3, .v (.int .i64 i))], [(0, some (.box 73 [.v (.int .i64 l.id), .v (.slice ad l.ps.length c)]))], 1, M, 47, ⟨fun _ => none, none, fun _ => none⟩⟩)
    (fun i => i ≤ l.ps.length ∧ ∀ j, j < i → placeB (gp l.ps j) = true ∧ keepB l.ps j = true) (fun i => l.ps.length - i) 0 ⟨Nat.zero_le _, fun j hj => absurd hj (Nat.not_lt_zero _)⟩ (Wk.mk' id (by repeat' constructor) (by repeat' constructor) (injOK_id _) rfl rfl rfl) ?_
  rintro i ⟨hi, hok⟩ m
  repeat (first | refine VIf.tt ?_ | refine VIf.ff ?_)
  refine VIf.mk (fun hlt => ?_) (fun hge => ?_)
  · have hlt := lt_of_dec hlt
    obtain ⟨ad', ead, hp⟩ := hrd M (Mem.le_refl _) i hlt
    repeat (first | refine VIf.tt ?_ | refine VIf.ff ?_)
    refine VDraw.go (by kernel_rfl) ?_
    repeat (first | refine VIf.tt ?_ | refine VIf.ff ?_)
    refine VIdx.mk ad' i ead rfl hlt ?_
    repeat (first | refine VIf.tt ?_ | refine VIf.ff ?_)
    refine VReads.mk [.int .i64 (gp l.ps i).1, .int .i64 (gp l.ps i).2] rfl hp ?_
    repeat (first | refine VIf.tt ?_ | refine VIf.ff ?_)
    refine VFn.p (pl15 (gp l.ps i) M) ?_
    repeat (first | refine VIf.tt ?_ | refine VIf.ff ?_)
    refine VIf.mk (fun h3 => ?_) (fun h3 => ?_)
    · repeat (first | refine VIf.tt ?_ | refine VIf.ff ?_)
      refine VFact.mk ⟨?_, rfl⟩ trivial
      rw [pathOK_pl (all_getD' (0, 0) placeB l.ps hlt ((Bool.not_eq_true' _).mp h3))]
    have h3 : placeB (gp l.ps i) = true := (Bool.not_eq_false' _).mp h3
    repeat (first | refine VIf.tt ?_ | refine VIf.ff ?_)
    refine VIf.mk (fun h4 => ?_) (fun h4 => ?_)
    · have h4 : 0 < i := by have := of_decide_eq_true h4; omega
      obtain ⟨ad2, ead2, hp2⟩ := hrd M (Mem.le_refl _) (i - 1) (by omega)
      repeat (first | refine VIf.tt ?_ | refine VIf.ff ?_)
      refine VIdx.mk ad' i ead rfl hlt ?_
      repeat (first | refine VIf.tt ?_ | refine VIf.ff ?_)
      refine VReads.mk [.int .i64 (gp l.ps i).1, .int .i64 (gp l.ps i).2] rfl hp ?_
      repeat (first | refine VIf.tt ?_ | refine VIf.ff ?_)
      refine VArith.ok (by first | omega | (simp only; omega)) (by first | omega | (simp only; omega)) ?_
      repeat (first | refine VIf.tt ?_ | refine VIf.ff ?_)
      refine VIdx.mk ad2 (i - 1) ead2 (by omega) (by omega) ?_
      repeat (first | refine VIf.tt ?_ | refine VIf.ff ?_)
      refine VReads.mk [.int .i64 (gp l.ps (i - 1)).1, .int .i64 (gp l.ps (i - 1)).2] rfl hp2 ?_
      repeat (first | refine VIf.tt ?_ | refine VIf.ff ?_)
      refine VIf.mk (fun h5 => ?_) (fun h5 => ?_)
      · repeat (first | refine VIf.tt ?_ | refine VIf.ff ?_)
        refine VFact.mk ⟨?_, rfl⟩ trivial
        rw [bad i hlt (by
          simp only [eqRes, Bool.and_eq_true, beq_iff_eq] at h5
          simp only [keepB, Bool.or_eq_false_iff, beq_eq_false_iff_ne, bne_eq_false_iff_eq]
          exact ⟨by omega, Prod.ext h5.1 h5.2⟩)]
      have hk : keepB l.ps i = true := by
        simp only [eqRes, Bool.and_eq_false_iff, beq_eq_false_iff_ne] at h5
        simp only [keepB, Bool.or_eq_true, beq_iff_eq, bne_iff_ne]
        refine .inr fun e => ?_
        rw [e] at h5; simp at h5
      repeat (first | refine VIf.tt ?_ | refine VIf.ff ?_)
      refine VArith.ok (by first | omega | (simp only; omega)) (by first | omega | (simp only; omega)) ?_
      refine ⟨i + 1, ⟨hlt, fun j hj => ?_⟩, (by first | omega | (simp only; omega)), (Wk.mk' id (by repeat' constructor) (by repeat' constructor) (injOK_id _) rfl rfl rfl)⟩
      by_cases e : j = i
      · subst e; exact ⟨h3, hk⟩
      · exact hok j (by omega)
    · have h4 : i = 0 := by have := of_decide_eq_false h4; omega
      repeat (first | refine VIf.tt ?_ | refine VIf.ff ?_)
      refine VArith.ok (by first | omega | (simp only; omega)) (by first | omega | (simp only; omega)) ?_
      refine ⟨i + 1, ⟨hlt, fun j hj => ?_⟩, (by first | omega | (simp only; omega)), (Wk.mk' id (by repeat' constructor) (by repeat' constructor) (injOK_id _) rfl rfl rfl)⟩
      have : j = i := by omega
      subst this
      exact ⟨h3, by rw [h4]; rfl⟩
  · have : i = l.ps.length := by have := ge_of_dec hge; omega
    subst this
    repeat (first | refine VIf.tt ?_ | refine VIf.ff ?_)
    refine VFact.mk ⟨?_, rfl⟩ trivial
    have : pathOK l = true := by
      unfold pathOK
      rw [idOK_iff.2 h1, decide_eq_true (by omega), all_getD (0, 0) placeB l.ps (fun i hi => (hok i hi).1), all_true (fun i hi => (hok i hi).2)]
      rfl
    rw [this]
end Go.Proofs.YtegmjmdkhbibjaaGreat

/- The reference's charts: names, frame, Valid. -/
namespace Go.Proofs.YtegmjmdkhbibjaaGreat
open Go Go.V Go.RowKit
theorem hp1 {M : Mem} (ad : Addr) {x y z : Value} {n : Nat} (hp : ∀ (j : Nat) (u : Value), [x, y, z][j]? = some u → M.cell ((ad.add n).add j) = some u) : ∀ (j : Nat) (u : Value), [y, z][j]? = some u → M.cell (((ad.add n).add 1).add j) = some u := fun j u hj => by
  rw [Addr.add_add]
  rw [show 1 + j = j + 1 by omega]
  exact hp (j + 1) u (by simpa using hj)
set_option maxRecDepth 20000 in
set_option maxHeartbeats 2000000 in
theorem beacons15_fn (v : Value) (l : List BeaS) (M : Mem) (hv : BeasV M v l) : FnP Tryz.prog 45 [v] M [.bool (beasOK l)] := by
  obtain ⟨ad, c, rfl, hm, hrd⟩ := hv.get
  refine Fn.of_vc cxOK Tryz.func45 rfl rfl rfl ?_
  repeat (first | refine VIf.tt ?_ | refine VIf.ff ?_)
  refine VIf.mk (fun h1 => ?_) (fun h1 => ?_)
  · have h1 := of_decide_eq_true h1
    repeat (first | refine VIf.tt ?_ | refine VIf.ff ?_)
    refine VFact.mk ⟨?_, rfl⟩ trivial
    have : beasOK l = false := by unfold beasOK; rw [decide_eq_false (show ¬ l.length ≤ 100 by omega), Bool.and_false]
    rw [this]
  have h1 := of_decide_eq_false h1
  have bad : ∀ i, i < l.length → (beaOK (gbe l i) = false ∨ ∃ j, j < i ∧ (gbe l j).id = (gbe l i).id) → beasOK l = false := fun i hi h => by
    unfold beasOK; rw [nmdB_bad hi h, Bool.false_and]
  repeat (first | refine VIf.tt ?_ | refine VIf.ff ?_)
  refine VCode.loop cxOK Nat (fun i => ⟨[(0, .v (.slice ad l.length c)), (3, .v (.int .i64 i))], [], 0, M, 46, ⟨fun _ => none, none, fun _ => none⟩⟩)
    (fun i => i ≤ l.length ∧ ∀ j, j < i → beaOK (gbe l j) = true ∧ ∀ k, k < j → (gbe l k).id ≠ (gbe l j).id) (fun i => l.length - i) 0 ⟨Nat.zero_le _, fun j hj => absurd hj (Nat.not_lt_zero _)⟩ (Wk.mk' id (by repeat' constructor) (by repeat' constructor) (injOK_id _) rfl rfl rfl) ?_
  rintro i ⟨hi, hok⟩ m
  repeat (first | refine VIf.tt ?_ | refine VIf.ff ?_)
  refine VIf.mk (fun hlt => ?_) (fun hge => ?_)
  rotate_left
  · have : i = l.length := by have := ge_of_dec hge; omega
    subst this
    repeat (first | refine VIf.tt ?_ | refine VIf.ff ?_)
    refine VFact.mk ⟨?_, rfl⟩ trivial
    have : beasOK l = true := by unfold beasOK; rw [nmdB_iff.2 hok, decide_eq_true (by omega)]; rfl
    rw [this]
  have hlt := lt_of_dec hlt
  obtain ⟨ad', ead, _, hp⟩ := hrd M (Mem.le_refl _) i hlt
  repeat (first | refine VIf.tt ?_ | refine VIf.ff ?_)
  refine VIdx.mk ad' i ead rfl hlt ?_
  repeat (first | refine VIf.tt ?_ | refine VIf.ff ?_)
  refine VRead.mk (.int .i64 (gbe l i).id) (hp 0 _ rfl) ?_
  repeat (first | refine VIf.tt ?_ | refine VIf.ff ?_)
  refine VFn.p (in15_fn _ _ _ _) ?_
  repeat (first | refine VIf.tt ?_ | refine VIf.ff ?_)
  refine VIf.mk (fun h2 => ?_) (fun h2 => ?_)
  · repeat (first | refine VIf.tt ?_ | refine VIf.ff ?_)
    refine VFact.mk ⟨?_, rfl⟩ trivial
    rw [bad i hlt (.inl (by
      unfold beaOK
      cases hb : idOK (gbe l i).id with
      | false => rfl
      | true => rw [in15B_iff.2 (idOK_iff.1 hb)] at h2; cases h2))]
  have h2 := in15B_iff.1 ((Bool.not_eq_false' _).mp h2)
  repeat (first | refine VIf.tt ?_ | refine VIf.ff ?_)
  refine VIdx.mk ad' i ead rfl hlt ?_
  repeat (first | refine VIf.tt ?_ | refine VIf.ff ?_)
  refine VReads.mk [.int .i64 (gbe l i).x, .int .i64 (gbe l i).y] rfl (fun j u hj => hp1 ad' hp j u hj) ?_
  repeat (first | refine VIf.tt ?_ | refine VIf.ff ?_)
  refine VFn.p (pl15 ((gbe l i).x, (gbe l i).y) M) ?_
  repeat (first | refine VIf.tt ?_ | refine VIf.ff ?_)
  refine VIf.mk (fun h3 => ?_) (fun h3 => ?_)
  · repeat (first | refine VIf.tt ?_ | refine VIf.ff ?_)
    refine VFact.mk ⟨?_, rfl⟩ trivial
    rw [bad i hlt (.inl (by unfold beaOK; rw [(Bool.not_eq_true' _).mp h3, Bool.and_false]))]
  have hR : beaOK (gbe l i) = true := by unfold beaOK; rw [idOK_iff.2 h2, (Bool.not_eq_false' _).mp h3]; rfl
  repeat (first | refine VIf.tt ?_ | refine VIf.ff ?_)
  refine VCode.loop cxOK Nat (fun k => ⟨[(0, .v (.slice ad l.length c)), (3, .v (.int .i64 i)), (4, .v (.int .i64 k))], [], 0, M, 46, ⟨fun _ => none, none, fun _ => none⟩⟩)
    (fun k => k ≤ i ∧ ∀ j, j < k → (gbe l j).id ≠ (gbe l i).id) (fun k => i - k) 0 ⟨Nat.zero_le _, fun j hj => absurd hj (Nat.not_lt_zero _)⟩ (Wk.mk' id (by repeat' constructor) (by repeat' constructor) (injOK_id _) rfl rfl rfl) ?_
  rintro k ⟨hk, hne⟩ mm
  repeat (first | refine VIf.tt ?_ | refine VIf.ff ?_)
  refine VIf.mk (fun hlk => ?_) (fun hgk => ?_)
  rotate_left
  · have : k = i := by have := of_decide_eq_false hgk; omega
    subst this
    repeat (first | refine VIf.tt ?_ | refine VIf.ff ?_)
    refine VArith.ok (by first | omega | (simp only; omega)) (by first | omega | (simp only; omega)) ?_
    refine ⟨k + 1, ⟨hlt, fun j hj => ?_⟩, (by first | omega | (simp only; omega)), (Wk.mk' id (by repeat' constructor) (by repeat' constructor) (injOK_id _) rfl rfl rfl)⟩
    by_cases e : j = k
    · subst e; exact ⟨hR, hne⟩
    · exact hok j (by omega)
  have hlk : k < i := by have := of_decide_eq_true hlk; omega
  obtain ⟨a2, e2, _, p2⟩ := hrd M (Mem.le_refl _) k (by omega)
  repeat (first | refine VIf.tt ?_ | refine VIf.ff ?_)
  refine VDraw.go (by kernel_rfl) ?_
  repeat (first | refine VIf.tt ?_ | refine VIf.ff ?_)
  refine VIdx.mk a2 k e2 rfl (by omega) ?_
  repeat (first | refine VIf.tt ?_ | refine VIf.ff ?_)
  refine VRead.mk (.int .i64 (gbe l k).id) (p2 0 _ rfl) ?_
  repeat (first | refine VIf.tt ?_ | refine VIf.ff ?_)
  refine VIdx.mk ad' i ead rfl hlt ?_
  repeat (first | refine VIf.tt ?_ | refine VIf.ff ?_)
  refine VRead.mk (.int .i64 (gbe l i).id) (hp 0 _ rfl) ?_
  repeat (first | refine VIf.tt ?_ | refine VIf.ff ?_)
  refine VIf.mk (fun h5 => ?_) (fun h5 => ?_)
  · repeat (first | refine VIf.tt ?_ | refine VIf.ff ?_)
    refine VFact.mk ⟨?_, rfl⟩ trivial
    rw [bad i hlt (.inr ⟨k, hlk, by simpa using h5⟩)]
  · repeat (first | refine VIf.tt ?_ | refine VIf.ff ?_)
    refine VArith.ok (by first | omega | (simp only; omega)) (by first | omega | (simp only; omega)) ?_
    refine ⟨k + 1, ⟨hlk, fun j hj => ?_⟩, (by first | omega | (simp only; omega)), (Wk.mk' id (by repeat' constructor) (by repeat' constructor) (injOK_id _) rfl rfl rfl)⟩
    by_cases e : j = k
    · subst e; simpa using h5
    · exact hne j (by omega)
set_option maxRecDepth 20000 in
set_option maxHeartbeats 2000000 in
theorem lines15_fn (v : Value) (l : List LinS) (M : Mem) (hv : LinsV M v l) : FnP Tryz.prog 46 [v] M [.bool (linsOK l)] := by
  obtain ⟨ad, c, rfl, hm, hrd⟩ := hv.get
  refine Fn.of_vc cxOK Tryz.func46 rfl rfl rfl ?_
  repeat (first | refine VIf.tt ?_ | refine VIf.ff ?_)
  refine VIf.mk (fun h1 => ?_) (fun h1 => ?_)
  · have h1 := of_decide_eq_true h1
    repeat (first | refine VIf.tt ?_ | refine VIf.ff ?_)
    refine VFact.mk ⟨?_, rfl⟩ trivial
    have : linsOK l = false := by unfold linsOK; rw [decide_eq_false (show ¬ l.length ≤ 50 by omega), Bool.and_false]
    rw [this]
  have h1 := of_decide_eq_false h1
  have bad : ∀ i, i < l.length → (pathOK (gli l i) = false ∨ ∃ j, j < i ∧ (gli l j).id = (gli l i).id) → linsOK l = false := fun i hi h => by
    unfold linsOK; rw [nmdB_bad hi h, Bool.false_and]
  repeat (first | refine VIf.tt ?_ | refine VIf.ff ?_)
  refine VCode.loop cxOK Nat (fun i => ⟨[(0, .v (.slice ad l.length c)), (3, .v (.int .i64 i))], [], 0, M, 36, ⟨fun _ => none, none, fun _ => none⟩⟩)
    (fun i => i ≤ l.length ∧ ∀ j, j < i → pathOK (gli l j) = true ∧ ∀ k, k < j → (gli l k).id ≠ (gli l j).id) (fun i => l.length - i) 0 ⟨Nat.zero_le _, fun j hj => absurd hj (Nat.not_lt_zero _)⟩ (Wk.mk' id (by repeat' constructor) (by repeat' constructor) (injOK_id _) rfl rfl rfl) ?_
  rintro i ⟨hi, hok⟩ m
  repeat (first | refine VIf.tt ?_ | refine VIf.ff ?_)
  refine VIf.mk (fun hlt => ?_) (fun hge => ?_)
  rotate_left
  · have : i = l.length := by have := ge_of_dec hge; omega
    subst this
    repeat (first | refine VIf.tt ?_ | refine VIf.ff ?_)
    refine VFact.mk ⟨?_, rfl⟩ trivial
    have : linsOK l = true := by unfold linsOK; rw [nmdB_iff.2 hok, decide_eq_true (by omega)]; rfl
    rw [this]
  have hlt := lt_of_dec hlt
  obtain ⟨ad', w, ead, _, hpt, hp64, hp⟩ := hrd M (Mem.le_refl _) i hlt
  have hP := Path15_fn (gli l i) w M hpt
  obtain ⟨wa, wc, rfl⟩ := hpt.shape
  repeat (first | refine VIf.tt ?_ | refine VIf.ff ?_)
  refine VIdx.mk ad' i ead rfl hlt ?_
  repeat (first | refine VIf.tt ?_ | refine VIf.ff ?_)
  refine VReads.mk [.int .i64 (gli l i).id, .slice wa (gli l i).ps.length wc] rfl hp ?_
  repeat (first | refine VIf.tt ?_ | refine VIf.ff ?_)
  refine VFn.p hP ?_
  repeat (first | refine VIf.tt ?_ | refine VIf.ff ?_)
  refine VIf.mk (fun h3 => ?_) (fun h3 => ?_)
  · repeat (first | refine VIf.tt ?_ | refine VIf.ff ?_)
    refine VFact.mk ⟨?_, rfl⟩ trivial
    rw [bad i hlt (.inl ((Bool.not_eq_true' _).mp h3))]
  have hR : pathOK (gli l i) = true := (Bool.not_eq_false' _).mp h3
  repeat (first | refine VIf.tt ?_ | refine VIf.ff ?_)
  refine VCode.loop cxOK Nat (fun k => ⟨[(0, .v (.slice ad l.length c)), (3, .v (.int .i64 i)), (4, .v (.int .i64 k))], [], 0, M, 36, ⟨fun _ => none, none, fun _ => none⟩⟩)
    (fun k => k ≤ i ∧ ∀ j, j < k → (gli l j).id ≠ (gli l i).id) (fun k => i - k) 0 ⟨Nat.zero_le _, fun j hj => absurd hj (Nat.not_lt_zero _)⟩ (Wk.mk' id (by repeat' constructor) (by repeat' constructor) (injOK_id _) rfl rfl rfl) ?_
  rintro k ⟨hk, hne⟩ mm
  repeat (first | refine VIf.tt ?_ | refine VIf.ff ?_)
  refine VIf.mk (fun hlk => ?_) (fun hgk => ?_)
  rotate_left
  · have : k = i := by have := of_decide_eq_false hgk; omega
    subst this
    repeat (first | refine VIf.tt ?_ | refine VIf.ff ?_)
    refine VArith.ok (by first | omega | (simp only; omega)) (by first | omega | (simp only; omega)) ?_
    refine ⟨k + 1, ⟨hlt, fun j hj => ?_⟩, (by first | omega | (simp only; omega)), (Wk.mk' id (by repeat' constructor) (by repeat' constructor) (injOK_id _) rfl rfl rfl)⟩
    by_cases e : j = k
    · subst e; exact ⟨hR, hne⟩
    · exact hok j (by omega)
  have hlk : k < i := by have := of_decide_eq_true hlk; omega
  obtain ⟨a2, _, e2, _, _, _, p2⟩ := hrd M (Mem.le_refl _) k (by omega)
  repeat (first | refine VIf.tt ?_ | refine VIf.ff ?_)
  refine VDraw.go (by kernel_rfl) ?_
  repeat (first | refine VIf.tt ?_ | refine VIf.ff ?_)
  refine VIdx.mk a2 k e2 rfl (by omega) ?_
  repeat (first | refine VIf.tt ?_ | refine VIf.ff ?_)
  refine VRead.mk (.int .i64 (gli l k).id) (p2 0 _ rfl) ?_
  repeat (first | refine VIf.tt ?_ | refine VIf.ff ?_)
  refine VIdx.mk ad' i ead rfl hlt ?_
  repeat (first | refine VIf.tt ?_ | refine VIf.ff ?_)
  refine VRead.mk (.int .i64 (gli l i).id) (hp 0 _ rfl) ?_
  repeat (first | refine VIf.tt ?_ | refine VIf.ff ?_)
  refine VIf.mk (fun h5 => ?_) (fun h5 => ?_)
  · repeat (first | refine VIf.tt ?_ | refine VIf.ff ?_)
    refine VFact.mk ⟨?_, rfl⟩ trivial
    rw [bad i hlt (.inr ⟨k, hlk, by simpa using h5⟩)]
  · repeat (first | refine VIf.tt ?_ | refine VIf.ff ?_)
    refine VArith.ok (by first | omega | (simp only; omega)) (by first | omega | (simp only; omega)) ?_
    refine ⟨k + 1, ⟨hlk, fun j hj => ?_⟩, (by first | omega | (simp only; omega)), (Wk.mk' id (by repeat' constructor) (by repeat' constructor) (injOK_id _) rfl rfl rfl)⟩
    by_cases e : j = k
    · subst e; simpa using h5
    · exact hne j (by omega)

set_option maxRecDepth 20000 in
set_option maxHeartbeats 2000000 in
theorem frame15_fn (c : ChartS) (a b d : Value) (M : Mem) (h : Cha M c a b d) : FnP Tryz.prog 44 [chV c a b d] M [.bool (decide (frameC c))] := by
  obtain ⟨⟨ad, ka, rfl⟩, ⟨bd, kb, rfl⟩, dd, kd, rfl⟩ := h.shape
  have bad : ¬ frameC c → decide (frameC c) = false := fun h => decide_eq_false h
  have hcl : c.cs.length ≤ 9223372036854775807 := by obtain ⟨_, _, _, q, _⟩ := h.cs.get; exact q
  refine Fn.of_vc cxOK Tryz.func44 rfl rfl rfl ?_
  repeat (first | refine VIf.tt ?_ | refine VIf.ff ?_)
  refine VFn.p (in15_fn _ _ _ _) ?_
  repeat (first | refine VIf.tt ?_ | refine VIf.ff ?_)
  refine VIf.mk (fun h1 => ?_) (fun h1 => ?_)
  · repeat (first | refine VIf.tt ?_ | refine VIf.ff ?_)
    refine VFact.mk ⟨?_, rfl⟩ trivial
    rw [bad (fun h => by rw [in15B_iff.2 (by unfold frameC at h; omega)] at h1; cases h1)]
  have h1 := in15B_iff.1 ((Bool.not_eq_false' _).mp h1)
  repeat (first | refine VIf.tt ?_ | refine VIf.ff ?_)
  refine VFn.p (in15_fn _ _ _ _) ?_
  repeat (first | refine VIf.tt ?_ | refine VIf.ff ?_)
  refine VIf.mk (fun h2 => ?_) (fun h2 => ?_)
  · repeat (first | refine VIf.tt ?_ | refine VIf.ff ?_)
    refine VFact.mk ⟨?_, rfl⟩ trivial
    rw [bad (fun h => by rw [in15B_iff.2 (by unfold frameC at h; omega)] at h2; cases h2)]
  have h2 := in15B_iff.1 ((Bool.not_eq_false' _).mp h2)
  repeat (first | refine VIf.tt ?_ | refine VIf.ff ?_)
  refine VFn.p (in15_fn _ _ _ _) ?_
  repeat (first | refine VIf.tt ?_ | refine VIf.ff ?_)
  refine VIf.mk (fun h3 => ?_) (fun h3 => ?_)
  · repeat (first | refine VIf.tt ?_ | refine VIf.ff ?_)
    refine VFact.mk ⟨?_, rfl⟩ trivial
    rw [bad (fun h => by rw [in15B_iff.2 (by unfold frameC at h; omega)] at h3; cases h3)]
  have h3 := in15B_iff.1 ((Bool.not_eq_false' _).mp h3)
  repeat (first | refine VIf.tt ?_ | refine VIf.ff ?_)
  refine VFn.p (in15_fn _ _ _ _) ?_
  repeat (first | refine VIf.tt ?_ | refine VIf.ff ?_)
  refine VIf.mk (fun h4 => ?_) (fun h4 => ?_)
  · repeat (first | refine VIf.tt ?_ | refine VIf.ff ?_)
    refine VFact.mk ⟨?_, rfl⟩ trivial
    rw [bad (fun h => by rw [in15B_iff.2 (by unfold frameC at h; omega)] at h4; cases h4)]
  have h4 := in15B_iff.1 ((Bool.not_eq_false' _).mp h4)
  have hwh := mulb (a := c.w) (b := c.h) 4000 4000 (by omega) (by omega)
  repeat (first | refine VIf.tt ?_ | refine VIf.ff ?_)
  refine VArith.ok (by first | omega | (simp only; omega)) (by first | omega | (simp only; omega)) ?_
  repeat (first | refine VIf.tt ?_ | refine VIf.ff ?_)
  refine VIf.mk (fun h5 => ?_) (fun h5 => ?_)
  · have e : c.w * c.h ≠ c.cs.length := fun e => by simp [e] at h5
    repeat (first | refine VIf.tt ?_ | refine VIf.ff ?_)
    refine VFact.mk ⟨?_, rfl⟩ trivial
    rw [bad (fun h => by unfold frameC at h; omega)]
  have h5 : c.w * c.h = c.cs.length := by simpa using h5
  repeat (first | refine VIf.tt ?_ | refine VIf.ff ?_)
  refine VArith.ok (by first | omega | (simp only; omega)) (by first | omega | (simp only; omega)) ?_
  repeat (first | refine VIf.tt ?_ | refine VIf.ff ?_)
  refine VIf.mk (fun h6 => ?_) (fun h6 => ?_)
  · have h6 := of_decide_eq_true h6
    repeat (first | refine VIf.tt ?_ | refine VIf.ff ?_)
    refine VFact.mk ⟨?_, rfl⟩ trivial
    rw [bad (fun h => by unfold frameC at h; omega)]
  have h6 := of_decide_eq_false h6
  repeat (first | refine VIf.tt ?_ | refine VIf.ff ?_)
  refine VFn.p (pl15 (c.x, c.y) M) ?_
  repeat (first | refine VIf.tt ?_ | refine VIf.ff ?_)
  refine VIf.mk (fun h7 => ?_) (fun h7 => ?_)
  · repeat (first | refine VIf.tt ?_ | refine VIf.ff ?_)
    refine VFact.mk ⟨?_, rfl⟩ trivial
    rw [bad (fun h => by rw [h.2.1] at h7; cases h7)]
  have h7 : placeB (c.x, c.y) = true := (Bool.not_eq_false' _).mp h7
  have b := place_bd h7
  simp only at b
  have hws := mulb (a := c.w) (b := c.sz) 4000 10000 (by omega) (by omega)
  have hhs := mulb (a := c.h) (b := c.sz) 4000 10000 (by omega) (by omega)
  repeat (first | refine VIf.tt ?_ | refine VIf.ff ?_)
  refine VArith.ok (by first | omega | (simp only; omega)) (by first | omega | (simp only; omega)) ?_
  repeat (first | refine VIf.tt ?_ | refine VIf.ff ?_)
  refine VArith.ok (by first | omega | (simp only; omega)) (by first | omega | (simp only; omega)) ?_
  repeat (first | refine VIf.tt ?_ | refine VIf.ff ?_)
  refine VArith.ok (by first | omega | (simp only; omega)) (by first | omega | (simp only; omega)) ?_
  repeat (first | refine VIf.tt ?_ | refine VIf.ff ?_)
  refine VArith.ok (by first | omega | (simp only; omega)) (by first | omega | (simp only; omega)) ?_
  repeat (first | refine VIf.tt ?_ | refine VIf.ff ?_)
  refine VArith.ok (by first | omega | (simp only; omega)) (by first | omega | (simp only; omega)) ?_
  repeat (first | refine VIf.tt ?_ | refine VIf.ff ?_)
  refine VArith.ok (by first | omega | (simp only; omega)) (by first | omega | (simp only; omega)) ?_
  repeat (first | refine VIf.tt ?_ | refine VIf.ff ?_)
  refine VFn.p (pl15 (c.x + c.w * c.sz - 1, c.y + c.h * c.sz - 1) M) ?_
  repeat (first | refine VIf.tt ?_ | refine VIf.ff ?_)
  refine VFact.mk ⟨?_, rfl⟩ trivial
  have : decide (frameC c) = placeB (c.x + c.w * c.sz - 1, c.y + c.h * c.sz - 1) := by
    rw [Bool.eq_iff_iff, decide_eq_true_iff]
    exact ⟨fun h => h.2.2, fun h => ⟨by omega, h7, h⟩⟩
  rw [this]
set_option maxRecDepth 20000 in
set_option maxHeartbeats 2000000 in
theorem Valid15_fn (c : ChartS) (a b d : Value) (M : Mem) (h : Cha M c a b d) : FnP Tryz.prog 22 [chV c a b d] M [.bool (validC c)] := by
  have hFr := frame15_fn c a b d M h
  have hBe := beacons15_fn b c.bs M h.bs
  have hLi := lines15_fn d c.ls M h.ls
  obtain ⟨ad, ka, ea, hm, hrd⟩ := h.cs.get
  obtain ⟨_, ⟨bd, kb, eb⟩, dd, kd, ed⟩ := h.shape
  subst ea; subst eb; subst ed
  refine Fn.of_vc cxOK Tryz.func22 rfl rfl rfl ?_
  repeat (first | refine VIf.tt ?_ | refine VIf.ff ?_)
  refine VFn.p hFr ?_
  repeat (first | refine VIf.tt ?_ | refine VIf.ff ?_)
  refine VIf.mk (fun h1 => ?_) (fun h1 => ?_)
  · repeat (first | refine VIf.tt ?_ | refine VIf.ff ?_)
    refine VFact.mk ⟨?_, rfl⟩ trivial
    unfold validC; rw [(Bool.not_eq_true' _).mp h1]; rfl
  have h1 := (Bool.not_eq_false' _).mp h1
  repeat (first | refine VIf.tt ?_ | refine VIf.ff ?_)
  refine VFn.p hBe ?_
  repeat (first | refine VIf.tt ?_ | refine VIf.ff ?_)
  refine VIf.mk (fun h2 => ?_) (fun h2 => ?_)
  · repeat (first | refine VIf.tt ?_ | refine VIf.ff ?_)
    refine VFact.mk ⟨?_, rfl⟩ trivial
    unfold validC; rw [(Bool.not_eq_true' _).mp h2, Bool.and_false]; rfl
  have h2 := (Bool.not_eq_false' _).mp h2
  repeat (first | refine VIf.tt ?_ | refine VIf.ff ?_)
  refine VFn.p hLi ?_
  repeat (first | refine VIf.tt ?_ | refine VIf.ff ?_)
  refine VIf.mk (fun h3 => ?_) (fun h3 => ?_)
  · repeat (first | refine VIf.tt ?_ | refine VIf.ff ?_)
    refine VFact.mk ⟨?_, rfl⟩ trivial
    unfold validC; rw [(Bool.not_eq_true' _).mp h3, Bool.and_false]
  have h3 := (Bool.not_eq_false' _).mp h3
  have hE : validC c = c.cs.all cellOK := by unfold validC; rw [h1, h2, h3, Bool.true_and, Bool.and_true, Bool.and_true]
  rw [hE]
  repeat (first | refine VIf.tt ?_ | refine VIf.ff ?_)
  refine VCode.loop cxOK Nat (fun i => ⟨[(1, .box 0 0), (3, .v (.int .i64 i))], [(0, some (.box 26 (chSV c (.slice ad c.cs.length ka) (.slice bd c.bs.length kb) (.slice dd c.ls.length kd))))], 1, M, 33, ⟨fun _ => none, none, fun _ => none⟩⟩)
    (fun i => i ≤ c.cs.length ∧ ∀ j, j < i → cellOK (gce c.cs j) = true) (fun i => c.cs.length - i) 0 ⟨Nat.zero_le _, fun j hj => absurd hj (Nat.not_lt_zero _)⟩ (Wk.mk' id (by repeat' constructor) (by repeat' constructor) (injOK_id _) rfl rfl rfl) ?_
  rintro i ⟨hi, hok⟩ m
  repeat (first | refine VIf.tt ?_ | refine VIf.ff ?_)
  refine VIf.mk (fun hlt => ?_) (fun hge => ?_)
  · have hlt := lt_of_dec hlt
    obtain ⟨ad', ead, _, hp⟩ := hrd M (Mem.le_refl _) i hlt
    repeat (first | refine VIf.tt ?_ | refine VIf.ff ?_)
    refine VIdx.mk ad' i ead rfl hlt ?_
    repeat (first | refine VIf.tt ?_ | refine VIf.ff ?_)
    refine VReads.mk [.int .i64 (gce c.cs i).lo, .int .i64 (gce c.cs i).hi, .int .i64 (gce c.cs i).dt, .bool (gce c.cs i).vd] rfl hp ?_
    repeat (first | refine VIf.tt ?_ | refine VIf.ff ?_)
    refine VFn.p (Cell15_fn (gce c.cs i) M) ?_
    repeat (first | refine VIf.tt ?_ | refine VIf.ff ?_)
    refine VIf.mk (fun h4 => ?_) (fun h4 => ?_)
    · repeat (first | refine VIf.tt ?_ | refine VIf.ff ?_)
      refine VFact.mk ⟨?_, rfl⟩ trivial
      rw [all_getD' cell0 cellOK c.cs hlt ((Bool.not_eq_true' _).mp h4)]
    repeat (first | refine VIf.tt ?_ | refine VIf.ff ?_)
    refine VArith.ok (by first | omega | (simp only; omega)) (by first | omega | (simp only; omega)) ?_
    refine ⟨i + 1, ⟨hlt, fun j hj => ?_⟩, (by first | omega | (simp only; omega)), (Wk.mk' id (by repeat' constructor) (by repeat' constructor) (injOK_id _) rfl rfl rfl)⟩
    by_cases e : j = i
    · subst e; exact (Bool.not_eq_false' _).mp h4
    · exact hok j (by omega)
  · have : i = c.cs.length := by have := ge_of_dec hge; omega
    subst this
    repeat (first | refine VIf.tt ?_ | refine VIf.ff ?_)
    refine VFact.mk ⟨?_, rfl⟩ trivial
    rw [all_getD cell0 cellOK c.cs hok]
end Go.Proofs.YtegmjmdkhbibjaaGreat

/- The reference's charts: squares, rectangles, lists. -/
namespace Go.Proofs.YtegmjmdkhbibjaaGreat
open Go Go.V Go.RowKit
set_option maxRecDepth 20000 in
set_option maxHeartbeats 2000000 in
theorem Bounds15_fn (c : ChartS) (a b d : Value) (i : Int) (M : Mem) (h : Cha M c a b d) (hF : frameC c) (hi : 0 ≤ i ∧ i < c.cs.length) : V.Fn Tryz.prog 52 [chV c a b d, .int .i64 i] M fun rs _ => rs = [ptv (bLo c i), ptv (bHi c i)] := by
  obtain ⟨⟨ad, ka, rfl⟩, ⟨bd, kb, rfl⟩, dd, kd, rfl⟩ := h.shape
  obtain ⟨⟨m1, m2⟩, p1, p2⟩ := sq_bd hF hi
  have q1 := place_bd p1
  have b2 := place_bd hF.2.1
  simp only at b2
  have q1' : -500000 ≤ c.x + i.tmod c.w * c.sz ∧ c.x + i.tmod c.w * c.sz ≤ 500000 ∧ -500000 ≤ c.y + i.tdiv c.w * c.sz ∧ c.y + i.tdiv c.w * c.sz ≤ 500000 := q1
  have cl := hF.1
  obtain ⟨t1, t2, t3, t4⟩ := encode hi.1 (show 0 < c.w by omega)
  have hdv : i.tdiv c.w ≤ 4000 := by
    rw [Int.tdiv_eq_ediv_of_nonneg hi.1]
    exact Int.le_trans (Int.ediv_le_self _ hi.1) (by omega)
  refine Fn.of_vc cxOK Tryz.func52 rfl rfl rfl ?_
  repeat (first | refine VIf.tt ?_ | refine VIf.ff ?_)
  refine VDraw.go (by kernel_rfl) ?_
  repeat (first | refine VIf.tt ?_ | refine VIf.ff ?_)
  refine VDiv.mk (by omega) ?_
  repeat (first | refine VIf.tt ?_ | refine VIf.ff ?_)
  refine VArith.ok (by first | omega | (simp only; omega)) (by first | omega | (simp only; omega)) ?_
  repeat (first | refine VIf.tt ?_ | refine VIf.ff ?_)
  refine VArith.ok (by first | omega | (simp only; omega)) (by first | omega | (simp only; omega)) ?_
  repeat (first | refine VIf.tt ?_ | refine VIf.ff ?_)
  refine VDiv.mk (by omega) ?_
  repeat (first | refine VIf.tt ?_ | refine VIf.ff ?_)
  refine VArith.ok (by first | omega | (simp only; omega)) (by first | omega | (simp only; omega)) ?_
  repeat (first | refine VIf.tt ?_ | refine VIf.ff ?_)
  refine VArith.ok (by first | omega | (simp only; omega)) (by first | omega | (simp only; omega)) ?_
  repeat (first | refine VIf.tt ?_ | refine VIf.ff ?_)
  refine VArith.ok (by first | omega | (simp only; omega)) (by first | omega | (simp only; omega)) ?_
  repeat (first | refine VIf.tt ?_ | refine VIf.ff ?_)
  refine VDraw.code ?_
  repeat (first | refine VIf.tt ?_ | refine VIf.ff ?_)
  refine VCode.draws cxOK [2, 6] (by kernel_rfl) Mem
    (fun M2 => ⟨[(4, .box 1 0), (5, .box 2 0)], [(2, some (.box 46 [.v (.int .i64 (bHi c i).1), .v (.int .i64 (bHi c i).2)])), (1, some (.box 46 [.v (.int .i64 (bLo c i).1), .v (.int .i64 (bLo c i).2)]))], 4, M2, 42, ⟨fun _ => none, none, fun _ => none⟩⟩)
    (fun _ => True) ?_ ?_
  · repeat (first | refine VIf.tt ?_ | refine VIf.ff ?_)
    refine VFzB.mk fun z1 B1 M1 hM1 hB1 => ?_
    repeat (first | refine VIf.tt ?_ | refine VIf.ff ?_)
    refine VFzB.mk fun z2 B2 M2 hM2 hB2 => ?_
    have hB1 : M1 B1 = some (.cells (chC c (.slice ad c.cs.length ka) (.slice bd c.bs.length kb) (.slice dd c.ls.length kd)) 26 (0, 0)) := hB1
    have hB2 : M2 B2 = some (.cells #[.int .i64 (c.x + i.tmod c.w * c.sz), .int .i64 (c.y + i.tdiv c.w * c.sz)] 46 (0, 0)) := hB2
    have hB1' := hM2 _ _ hB1
    repeat (first | refine VIf.tt ?_ | refine VIf.ff ?_)
    refine VReads.mk [.int .i64 (c.x + i.tmod c.w * c.sz), .int .i64 (c.y + i.tdiv c.w * c.sz)] rfl (fun j u hj => cellAt hB2 j (by simpa using hj)) ?_
    repeat (first | refine VIf.tt ?_ | refine VIf.ff ?_)
    refine VRead.mk (.int .i64 (c.x + i.tmod c.w * c.sz)) (cellAt hB2 0 rfl) ?_
    repeat (first | refine VIf.tt ?_ | refine VIf.ff ?_)
    refine VRead.mk (.int .i64 c.sz) (cellAt hB1' 5 rfl) ?_
    repeat (first | refine VIf.tt ?_ | refine VIf.ff ?_)
    refine VArith.ok (by first | omega | (simp only; omega)) (by first | omega | (simp only; omega)) ?_
    repeat (first | refine VIf.tt ?_ | refine VIf.ff ?_)
    refine VArith.ok (by first | omega | (simp only; omega)) (by first | omega | (simp only; omega)) ?_
    repeat (first | refine VIf.tt ?_ | refine VIf.ff ?_)
    refine VRead.mk (.int .i64 (c.y + i.tdiv c.w * c.sz)) (cellAt hB2 1 rfl) ?_
    repeat (first | refine VIf.tt ?_ | refine VIf.ff ?_)
    refine VRead.mk (.int .i64 c.sz) (cellAt hB1' 5 rfl) ?_
    repeat (first | refine VIf.tt ?_ | refine VIf.ff ?_)
    refine VArith.ok (by first | omega | (simp only; omega)) (by first | omega | (simp only; omega)) ?_
    repeat (first | refine VIf.tt ?_ | refine VIf.ff ?_)
    refine VArith.ok (by first | omega | (simp only; omega)) (by first | omega | (simp only; omega)) ?_
    have hc := Mem.le_refl M2
    repeat (first | refine VIf.tt ?_ | refine VIf.ff ?_)
    refine VFact.mk hc ?_
    repeat (first | refine VIf.tt ?_ | refine VIf.ff ?_)
    refine VFact.mk hc ?_
    exact ⟨M2, trivial, (Wk.mk' id (by repeat' constructor) (by repeat' constructor) (injOK_id _) rfl rfl rfl)⟩
  · rintro M2 m _
    repeat (first | refine VIf.tt ?_ | refine VIf.ff ?_)
    exact VFact.mk rfl trivial
theorem Meet15_fn (lo hi low high : Pt) (M : Mem) : FnP Tryz.prog 74 [ptv lo, ptv hi, ptv low, ptv high] M [.bool (meetsP lo hi low high)] := by
  refine Fn.of_vc cxOK Tryz.func74 rfl rfl rfl ?_
  repeat (first | refine VIf.tt ?_ | refine VIf.ff ?_)
  refine VIf.mk (fun h1 => ?_) (fun h1 => ?_)
  rotate_left
  · repeat (first | refine VIf.tt ?_ | refine VIf.ff ?_)
    exact VFact.mk ⟨by unfold meetsP; rw [h1]; rfl, rfl⟩ trivial
  repeat (first | refine VIf.tt ?_ | refine VIf.ff ?_)
  refine VIf.mk (fun h2 => ?_) (fun h2 => ?_)
  rotate_left
  · repeat (first | refine VIf.tt ?_ | refine VIf.ff ?_)
    exact VFact.mk ⟨by unfold meetsP; rw [h2, Bool.and_false]; rfl, rfl⟩ trivial
  repeat (first | refine VIf.tt ?_ | refine VIf.ff ?_)
  refine VIf.mk (fun h3 => ?_) (fun h3 => ?_)
  rotate_left
  · repeat (first | refine VIf.tt ?_ | refine VIf.ff ?_)
    exact VFact.mk ⟨by unfold meetsP; rw [h3, Bool.and_false]; rfl, rfl⟩ trivial
  repeat (first | refine VIf.tt ?_ | refine VIf.ff ?_)
  exact VFact.mk ⟨by unfold meetsP; rw [h1, h2, h3]; rfl, rfl⟩ trivial
theorem unC_succ (c : ChartS) (lo hi : Pt) (k : Nat) : unC c lo hi (k + 1) = if meetsP lo hi (bLo c k) (bHi c k) = true then unC c lo hi k ++ [(k : Int)] else unC c lo hi k := by
  unfold unC
  rw [List.range_succ, List.filter_append, List.map_append]
  by_cases h : meetsP lo hi (bLo c k) (bHi c k) = true <;> simp [h]
theorem unC_len (c : ChartS) (lo hi : Pt) (k : Nat) : (unC c lo hi k).length ≤ k := by
  unfold unC
  rw [List.length_map]
  exact Nat.le_trans (List.length_filter_le _ _) (by rw [List.length_range]; exact Nat.le_refl _)
set_option maxRecDepth 20000 in
set_option maxHeartbeats 2000000 in
theorem Under15_fn (c : ChartS) (a b d : Value) (lo hi : Pt) (M : Mem) (h : Cha M c a b d) (hF : frameC c) : V.Fn Tryz.prog 53 [chV c a b d, ptv lo, ptv hi] M fun rs M' => ∃ u, rs = [u] ∧ IntsV M' u (underC c lo hi) := by
  have hB := fun M' (hM : M.le M') i hi => Bounds15_fn c a b d i M' (h.le hM) hF hi
  obtain ⟨⟨ad, ka, ea⟩, ⟨bd, kb, eb⟩, dd, kd, ed⟩ := h.shape
  subst ea; subst eb; subst ed
  have cl := hF.1.2.2.2.2.1
  refine Fn.of_vc cxOK Tryz.func53 rfl rfl rfl ?_
  repeat (first | refine VIf.tt ?_ | refine VIf.ff ?_)
  refine VCode.loop cxOK (Nat × List Int × Mem) (fun (⟨k, us, M1⟩ : Nat × List Int × Mem) => ⟨[(3, .box 0 0), (4, .box 1 0), (5, .box 2 0), (7, .row 3), (8, .v (.int .i64 k))], [(0, some (.box 26 (chSV c (.slice ad c.cs.length ka) (.slice bd c.bs.length kb) (.slice dd c.ls.length kd)))), (1, some (.box 46 [.v (.int .i64 lo.1), .v (.int .i64 lo.2)])), (2, some (.box 46 [.v (.int .i64 hi.1), .v (.int .i64 hi.2)])), (3, some (.row 3 1 us.length (us.map (Value.int .i64))))], 4, M1, 34, ⟨fun _ => none, none, fun _ => none⟩⟩)
    (fun (⟨k, us, M1⟩ : Nat × List Int × Mem) => (M.le M1 ∧ k ≤ c.cs.length) ∧ us = unC c lo hi k) (fun (⟨k, _, _⟩ : Nat × List Int × Mem) => c.cs.length - k) (0, [], M) ⟨⟨Mem.le_refl _, Nat.zero_le _⟩, rfl⟩ ?_ ?_
  · exact Wk.nil 7 3 1 rfl (Wk.mk' id (by repeat' constructor) (by repeat' constructor) (injOK_id _) rfl rfl rfl)
  rintro ⟨k, us, M1⟩ ⟨⟨hM1, hk⟩, hus⟩ m
  have hul : us.length ≤ k := by rw [hus]; exact unC_len c lo hi k
  repeat (first | refine VIf.tt ?_ | refine VIf.ff ?_)
  refine VIf.mk (fun hlt => ?_) (fun hge => ?_)
  rotate_left
  · have : k = c.cs.length := by have := ge_of_dec hge; omega
    subst this
    have eu : underC c lo hi = us := hus.symm
    repeat (first | refine VIf.tt ?_ | refine VIf.ff ?_)
    refine VFz.mk fun x B M2 hM2 hx => ?_
    repeat (first | refine VIf.tt ?_ | refine VIf.ff ?_)
    refine VFact.mk (show ∃ u, _ = _ ∧ _ from ⟨x, rfl, ?_⟩) trivial
    rw [eu]
    exact IntsV.of hx (by rw [← eu]; exact underC_64 cl)
  have hlt : k < c.cs.length := lt_of_dec hlt
  repeat (first | refine VIf.tt ?_ | refine VIf.ff ?_)
  refine VFn.mk _ (hB M1 hM1 (k : Int) ⟨by omega, by omega⟩) ?_
  rintro rs M2 hM2 rfl
  repeat (first | refine VIf.tt ?_ | refine VIf.ff ?_)
  refine VFn.p (Meet15_fn lo hi (bLo c k) (bHi c k) M2) ?_
  have hs := unC_succ c lo hi k
  rw [← hus] at hs
  repeat (first | refine VIf.tt ?_ | refine VIf.ff ?_)
  refine VIf.mk (fun hm => ?_) (fun hm => ?_)
  · rw [if_pos hm] at hs
    have hb : (us.length + 1) * 8 ≤ 140737488355328 := by omega
    repeat (first | refine VIf.tt ?_ | refine VIf.ff ?_)
    refine VFact.mk hb ?_
    repeat (first | refine VIf.tt ?_ | refine VIf.ff ?_)
    refine VArith.ok (by first | omega | (simp only; omega)) (by first | omega | (simp only; omega)) ?_
    refine ⟨(k + 1, us ++ [(k : Int)], M2), ⟨⟨hM1.trans hM2, hlt⟩, hs.symm⟩, (by first | omega | (simp only; omega)), Wk.mk' (fun i => if i = 3 then 7 else i) (by repeat' constructor) ⟨⟨rfl, by repeat' constructor⟩, ⟨rfl, by repeat' constructor⟩, ⟨rfl, by repeat' constructor⟩, ⟨rfl, ⟨rfl, rfl, ?_, ?_⟩⟩, trivial⟩ (by simp [injOK]) rfl rfl rfl⟩
    · rw [List.length_append]; rfl
    · rw [List.map_append]; rfl
  · rw [if_neg (by rw [hm]; decide)] at hs
    repeat (first | refine VIf.tt ?_ | refine VIf.ff ?_)
    refine VArith.ok (by first | omega | (simp only; omega)) (by first | omega | (simp only; omega)) ?_
    exact ⟨(k + 1, us, M2), ⟨⟨hM1.trans hM2, hlt⟩, hs.symm⟩, (by first | omega | (simp only; omega)), (Wk.mk' id (by repeat' constructor) (by repeat' constructor) (injOK_id _) rfl rfl rfl)⟩
end Go.Proofs.YtegmjmdkhbibjaaGreat

/- The plain law of translations. -/
namespace Go.Proofs.YtegmjmdkhbibjaaGreat
open Go
theorem meetsP_iff {lo hi low high : Pt} : meetsP lo hi low high = true ↔ (lo.1 ≤ high.1 ∧ low.1 ≤ hi.1) ∧ lo.2 ≤ high.2 ∧ low.2 ≤ hi.2 := by
  unfold meetsP
  simp only [Bool.and_eq_true, decide_eq_true_eq]
  omega
theorem touC_mem {c e : ChartS} {i k : Int} : k ∈ touC c i e ↔ (0 ≤ k ∧ k < e.cs.length) ∧ meetsP (bLo c i) (bHi c i) (bLo e k) (bHi e k) = true := underC_mem
theorem touC_symm {c e : ChartS} {i k : Int} (hi : 0 ≤ i ∧ i < c.cs.length) (h : k ∈ touC c i e) : i ∈ touC e k c := by
  rw [touC_mem, meetsP_iff] at h ⊢
  omega
/-- A place is in a cell. -/
def sqIn (c : ChartS) (i : Int) (p : Pt) : Prop := ((bLo c i).1 ≤ p.1 ∧ p.1 ≤ (bHi c i).1) ∧ (bLo c i).2 ≤ p.2 ∧ p.2 ≤ (bHi c i).2
theorem under_at {c : ChartS} {p : Pt} {i : Int} : i ∈ underC c p p ↔ (0 ≤ i ∧ i < c.cs.length) ∧ sqIn c i p := by
  rw [underC_mem, meetsP_iff]; unfold sqIn; omega
theorem tou_of {c e : ChartS} {i k : Int} {p : Pt} (hk : 0 ≤ k ∧ k < e.cs.length) (h1 : sqIn c i p) (h2 : sqIn e k p) : k ∈ touC c i e := by
  rw [touC_mem, meetsP_iff]; unfold sqIn at *; omega
theorem tou_at {c e : ChartS} (hc : frameC c) (he : frameC e) {i k : Int} (h : k ∈ touC c i e) : ∃ p, sqIn c i p ∧ sqIn e k p := by
  have f := hc.1
  have g := he.1
  rw [touC_mem, meetsP_iff] at h
  refine ⟨(max (bLo c i).1 (bLo e k).1, max (bLo c i).2 (bLo e k).2), ?_, ?_⟩ <;>
  · unfold sqIn
    unfold bHi at *
    simp only at *
    omega
theorem sq_col {c : ChartS} (hF : frameC c) {i : Int} (hi : 0 ≤ i) {p : Pt} : sqIn c i p ↔ i.tmod c.w = colC c.x c.sz p.1 ∧ i.tdiv c.w = colC c.y c.sz p.2 := by
  have f := hF.1
  obtain ⟨e1, e2, e3, e4⟩ := encode hi (show 0 < c.w by omega)
  obtain ⟨b1, b2⟩ := colC_le (fr := c.x) (p := p.1) (show 1 ≤ c.sz by omega) e2
  obtain ⟨b3, b4⟩ := colC_le (fr := c.y) (p := p.2) (show 1 ≤ c.sz by omega) e1
  unfold sqIn bHi bLo
  simp only
  rw [b1, b2, b3, b4]
  omega
theorem sq_one {c : ChartS} (hF : frameC c) {i j : Int} {p : Pt} (hi : 0 ≤ i) (hj : 0 ≤ j) (h1 : sqIn c i p) (h2 : sqIn c j p) : i = j := by
  have f := hF.1
  obtain ⟨_, _, _, e1⟩ := encode hi (show 0 < c.w by omega)
  obtain ⟨_, _, _, e2⟩ := encode hj (show 0 < c.w by omega)
  rw [sq_col hF hi] at h1
  rw [sq_col hF hj] at h2
  rw [e1, e2, h1.1, h1.2, h2.1, h2.2]
theorem sq_lo {c : ChartS} (hF : frameC c) (i : Int) : sqIn c i (bLo c i) := by
  have f := hF.1
  unfold sqIn bHi; simp only; omega
theorem sq_hi {c : ChartS} (hF : frameC c) (i : Int) : sqIn c i (bHi c i) := by
  have f := hF.1
  unfold sqIn bHi; simp only; omega
theorem box_lo (c : ChartS) : bLo c 0 = (c.x, c.y) := by unfold bLo; simp
theorem box_hi {c : ChartS} (hF : frameC c) : bHi c (c.cs.length - 1) = (c.x + c.w * c.sz - 1, c.y + c.h * c.sz - 1) := by
  have f := hF.1
  have h1 : ((c.cs.length : Int) - 1) = (c.h - 1) * c.w + (c.w - 1) := by rw [← f.2.2.2.1, Int.sub_mul, Int.mul_comm c.h]; omega
  unfold bHi
  rw [h1, bLo_in (by omega) (by omega) (by omega)]
  simp only [Int.sub_mul, Int.one_mul, Prod.mk.injEq]
  omega
def inBox (c : ChartS) (p : Pt) : Prop := ((bLo c 0).1 ≤ p.1 ∧ (bLo c 0).2 ≤ p.2) ∧ p.1 ≤ (bHi c (c.cs.length - 1)).1 ∧ p.2 ≤ (bHi c (c.cs.length - 1)).2
theorem cell_at {c : ChartS} (hF : frameC c) {p : Pt} (h : inBox c p) : ∃ i : Int, (0 ≤ i ∧ i < c.cs.length) ∧ sqIn c i p := by
  have f := hF.1
  unfold inBox at h
  rw [box_lo, box_hi hF] at h
  simp only at h
  obtain ⟨b1, _⟩ := colC_le (fr := c.x) (p := p.1) (x := 0) (show 1 ≤ c.sz by omega) (by omega)
  obtain ⟨_, b2⟩ := colC_le (fr := c.x) (p := p.1) (x := c.w - 1) (show 1 ≤ c.sz by omega) (by omega)
  obtain ⟨b3, _⟩ := colC_le (fr := c.y) (p := p.2) (x := 0) (show 1 ≤ c.sz by omega) (by omega)
  obtain ⟨_, b4⟩ := colC_le (fr := c.y) (p := p.2) (x := c.h - 1) (show 1 ≤ c.sz by omega) (by omega)
  rw [Int.sub_mul, Int.one_mul] at b2 b4
  have x0 := b1.1 (by omega)
  have x1 := b2.1 (by omega)
  have y0 := b3.1 (by omega)
  have y1 := b4.1 (by omega)
  obtain ⟨d1, d2⟩ := decode (w := c.w) y0 x0 (by omega)
  have m1 := Int.mul_nonneg y0 (show 0 ≤ c.w by omega)
  have m2 := Int.mul_le_mul_of_nonneg_right (show colC c.y c.sz p.2 + 1 ≤ c.h by omega) (show 0 ≤ c.w by omega)
  rw [Int.add_mul, Int.mul_comm c.h] at m2
  refine ⟨colC c.y c.sz p.2 * c.w + colC c.x c.sz p.1, ⟨by omega, by omega⟩, ?_⟩
  rw [sq_col hF (by omega)]
  exact ⟨d2, d1⟩
theorem box_of {c : ChartS} (hF : frameC c) {i : Int} (hi : 0 ≤ i ∧ i < c.cs.length) {p : Pt} (h : sqIn c i p) : inBox c p := by
  have f := hF.1
  unfold inBox
  rw [box_lo, box_hi hF]
  obtain ⟨e1, e2, e3, e4⟩ := encode hi.1 (show 0 < c.w by omega)
  have hyh : i.tdiv c.w ≤ c.h - 1 := by
    refine Int.not_lt.1 fun hlt => ?_
    have := Int.mul_le_mul_of_nonneg_right (show c.h ≤ i.tdiv c.w by omega) (show 0 ≤ c.w by omega)
    rw [Int.mul_comm c.h] at this
    omega
  unfold sqIn bHi bLo at h
  simp only at h ⊢
  have m1 := Int.mul_nonneg e2 (show 0 ≤ c.sz by omega)
  have m2 := Int.mul_nonneg e1 (show 0 ≤ c.sz by omega)
  have m3 := Int.mul_le_mul_of_nonneg_right (show i.tmod c.w + 1 ≤ c.w by omega) (show 0 ≤ c.sz by omega)
  have m4 := Int.mul_le_mul_of_nonneg_right (show i.tdiv c.w + 1 ≤ c.h by omega) (show 0 ≤ c.sz by omega)
  rw [Int.add_mul] at m3 m4
  omega
/-- What a chart says of a cell of another one. -/
def CovC (c e : ChartS) (k : Nat) : Prop := (inBox c (bLo e k) ∧ inBox c (bHi e k)) ∧ ∀ i ∈ touC e k c, (gce c.cs i.toNat).vd = false ∧ (gce e.cs k).lo ≤ (gce c.cs i.toNat).lo ∧ (gce c.cs i.toNat).hi ≤ (gce e.cs k).hi
theorem anyT_iff {c e : ChartS} {k : Nat} {g : CellS → Bool} : anyT c e k g = true ↔ ∃ i ∈ touC e k c, g (gce c.cs i.toNat) = true := by
  unfold anyT
  rw [List.any_eq_true]
  constructor
  · rintro ⟨j, hj, h⟩
    exact ⟨_, gi_mem (List.mem_range.1 hj), h⟩
  · rintro ⟨i, hi, h⟩
    obtain ⟨j, hj, rfl⟩ := List.getElem_of_mem hi
    exact ⟨j, List.mem_range.2 hj, by rw [gi_eq hj]; exact h⟩
theorem anyT_no {c e : ChartS} {k : Nat} {g : CellS → Bool} : (!anyT c e k g) = true ↔ ∀ i ∈ touC e k c, g (gce c.cs i.toNat) = false := by
  rw [Bool.not_eq_true', ← Bool.not_eq_true, anyT_iff]
  constructor
  · intro h i hi
    exact Bool.eq_false_iff.2 fun hg => h ⟨i, hi, hg⟩
  · rintro h ⟨i, hi, hg⟩
    rw [h i hi] at hg; cases hg
theorem covC_iff {c e : ChartS} (he : frameC e) {k : Nat} : covC c e k = true ↔ ((gce e.cs k).vd = false → CovC c e k) := by
  unfold covC
  cases hv : (gce e.cs k).vd with
  | true => simp
  | false =>
    simp only [Bool.false_or, Bool.and_eq_true, anyT_no, forall_const]
    unfold CovC inBC
    have f := he.1
    simp only [Bool.and_eq_true, decide_eq_true_eq, decide_eq_false_iff_not, Int.not_lt]
    constructor
    · rintro ⟨⟨⟨h1, h2⟩, h3⟩, h4⟩
      refine ⟨?_, fun i hi => ⟨h2 i hi, h3 i hi, h4 i hi⟩⟩
      unfold inBox
      unfold bHi at h1 ⊢
      simp only at *
      omega
    · rintro ⟨h1, h2⟩
      refine ⟨⟨⟨?_, fun i hi => (h2 i hi).1⟩, fun i hi => (h2 i hi).2.1⟩, fun i hi => (h2 i hi).2.2⟩
      unfold inBox at h1
      omega
theorem keepsC_iff {c e : ChartS} (he : frameC e) : keepsC c e = true ↔ ∀ k, k < e.cs.length → (gce e.cs k).vd = false → CovC c e k := by
  unfold keepsC
  rw [all_iff]
  exact ⟨fun h k hk => (covC_iff he).1 (h k hk), fun h k hk => (covC_iff he).2 (h k hk)⟩
theorem touch_self {c : ChartS} (hF : frameC c) {i : Int} (hi : 0 ≤ i ∧ i < c.cs.length) : touC c i c = [i] := by
  refine sorted_ext (unC_lt _ _ _ _) (by simp) fun x => ?_
  rw [List.mem_singleton]
  constructor
  · intro h
    obtain ⟨p, h1, h2⟩ := tou_at hF hF h
    exact sq_one hF (touC_bd h).1 hi.1 h2 h1
  · rintro rfl
    exact tou_of hi (sq_lo hF x) (sq_lo hF x)
/-- The same squares. -/
theorem touC_of {c e c' e' : ChartS} {i : Int} (h1 : bLo c i = bLo c' i) (h2 : bHi c i = bHi c' i) (he : e.x = e'.x ∧ e.y = e'.y ∧ e.w = e'.w ∧ e.sz = e'.sz) (hl : e.cs.length = e'.cs.length) : touC c i e = touC c' i e' := by
  unfold touC underC unC
  rw [h1, h2, hl]
  have q1 : ∀ j, bLo e j = bLo e' j := fun j => by unfold bLo; rw [he.1, he.2.1, he.2.2.1, he.2.2.2]
  have q2 : ∀ j, bHi e j = bHi e' j := fun j => by unfold bHi; rw [q1, he.2.2.2]
  simp only [q1, q2]
theorem keeps_void {c v : ChartS} (hF : frameC c) (hv : v.x = c.x ∧ v.y = c.y ∧ v.w = c.w ∧ v.h = c.h ∧ v.sz = c.sz ∧ v.cs.length = c.cs.length) (hfv : frameC v)
    (hc : ∀ k, k < c.cs.length → (gce v.cs k).lo = (gce c.cs k).lo ∧ (gce v.cs k).hi = (gce c.cs k).hi ∧ ((gce v.cs k).vd = false → (gce c.cs k).vd = false)) : keepsC c v = true := by
  rw [keepsC_iff hfv]
  intro k hk hvd
  obtain ⟨v1, v2, v3, v4, v5, v6⟩ := hv
  have elo : ∀ i, bLo v i = bLo c i := fun i => by unfold bLo; rw [v1, v2, v3, v5]
  have ehi : ∀ i, bHi v i = bHi c i := fun i => by unfold bHi; rw [elo, v5]
  have hk' : k < c.cs.length := by omega
  have hkk : (0 : Int) ≤ (k : Int) ∧ (k : Int) < c.cs.length := by omega
  obtain ⟨q1, q2, q3⟩ := hc k hk'
  refine ⟨⟨?_, ?_⟩, fun i hi => ?_⟩
  · rw [elo]; exact box_of hF hkk (sq_lo hF k)
  · rw [ehi]; exact box_of hF hkk (sq_hi hF k)
  · rw [touC_of (elo _) (ehi _) ⟨rfl, rfl, rfl, rfl⟩ rfl, touch_self hF hkk, List.mem_singleton] at hi
    subst hi
    rw [Int.toNat_natCast, q1, q2]
    exact ⟨q3 hvd, Int.le_refl _, Int.le_refl _⟩
theorem keeps_less {c v : ChartS} (hF : frameC c) (hv : v.x = c.x ∧ v.y = c.y ∧ v.w = c.w ∧ v.h = c.h ∧ v.sz = c.sz ∧ v.cs.length = c.cs.length) (hfv : frameC v)
    (hc : ∀ k, k < c.cs.length → (gce v.cs k).lo = (gce c.cs k).lo ∧ (gce v.cs k).hi = (gce c.cs k).hi ∧ ((gce v.cs k).vd = false → (gce c.cs k).vd = false)) :
    keepsC v c = true ↔ ∀ k, k < c.cs.length → (gce v.cs k).vd = (gce c.cs k).vd := by
  constructor
  · intro h k hk
    have h := (keepsC_iff hF).1 h k hk
    have hkk : (0 : Int) ≤ (k : Int) ∧ (k : Int) < v.cs.length := by omega
    cases e : (gce c.cs k).vd with
    | false =>
      have hi : (k : Int) ∈ touC c k v := by
        obtain ⟨v1, v2, v3, v4, v5, v6⟩ := hv
        rw [touC_of (c' := c) (e' := c) rfl rfl ⟨v1, v2, v3, v5⟩ v6, touch_self hF (by omega)]
        exact List.mem_singleton.2 rfl
      have := ((h e).2 _ hi).1
      rw [Int.toNat_natCast] at this
      exact this
    | true =>
      cases e2 : (gce v.cs k).vd with
      | true => rfl
      | false => rw [(hc k hk).2.2 e2] at e; cases e
  · intro h
    refine keeps_void hfv ⟨hv.1.symm, hv.2.1.symm, hv.2.2.1.symm, hv.2.2.2.1.symm, hv.2.2.2.2.1.symm, hv.2.2.2.2.2.symm⟩ hF fun k hk => ?_
    have hk : k < c.cs.length := by omega
    obtain ⟨q1, q2, _⟩ := hc k hk
    exact ⟨q1.symm, q2.symm, fun e => by rw [h k hk]; exact e⟩
theorem keeps_self {c : ChartS} (hF : frameC c) : keepsC c c = true := keeps_void hF ⟨rfl, rfl, rfl, rfl, rfl, rfl⟩ hF fun k _ => ⟨rfl, rfl, id⟩
theorem keeps_chain {a b c : ChartS} (ha : frameC a) (hb : frameC b) (hc : frameC c) (h1 : keepsC a b = true) (h2 : keepsC b c = true) : keepsC a c = true := by
  rw [keepsC_iff hb] at h1
  rw [keepsC_iff hc] at h2 ⊢
  intro k hk hvd
  obtain ⟨⟨p1, p2⟩, h2⟩ := h2 k hk hvd
  -- a place of the cell lies in a cell of b that is not void
  have key : ∀ p, sqIn c k p → inBox b p → ∃ j : Nat, j < b.cs.length ∧ sqIn b j p ∧ CovC a b j ∧ (gce c.cs k).lo ≤ (gce b.cs j).lo ∧ (gce b.cs j).hi ≤ (gce c.cs k).hi := by
    intro p hp hbx
    obtain ⟨j, hj, hs⟩ := cell_at hb hbx
    have ht := h2 j (tou_of hj hp hs)
    have ej : ((j.toNat : Nat) : Int) = j := Int.toNat_of_nonneg hj.1
    refine ⟨j.toNat, by omega, by rw [ej]; exact hs, h1 _ (by omega) ht.1, ht.2⟩
  have inb : ∀ p, sqIn c k p → inBox b p := fun p hp => by
    unfold inBox at *
    unfold sqIn at hp
    omega
  have bx : ∀ p, sqIn c k p → inBox a p := fun p hp => by
    obtain ⟨j, hj, hs, ⟨⟨q1, q2⟩, _⟩, _⟩ := key p hp (inb p hp)
    unfold inBox at *
    unfold sqIn at hs
    omega
  refine ⟨⟨bx _ (sq_lo hc k), bx _ (sq_hi hc k)⟩, fun i hi => ?_⟩
  obtain ⟨p, s1, s2⟩ := tou_at hc ha hi
  obtain ⟨j, hj, hs, ⟨_, q⟩, q3, q4⟩ := key p s1 (inb p s1)
  obtain ⟨r1, r2, r3⟩ := q i (tou_of (touC_bd hi) hs s2)
  exact ⟨r1, by omega, by omega⟩
theorem keeps_place {c e : ChartS} (hc : frameC c) (he : frameC e) (h : keepsC c e = true) {k : Nat} (hk : k < e.cs.length) (hvd : (gce e.cs k).vd = false) {p : Pt} (hp : sqIn e k p) :
    ∃ i : Nat, i < c.cs.length ∧ sqIn c i p ∧ (gce c.cs i).vd = false ∧ (gce e.cs k).lo ≤ (gce c.cs i).lo ∧ (gce c.cs i).hi ≤ (gce e.cs k).hi := by
  obtain ⟨⟨p1, p2⟩, h2⟩ := (keepsC_iff he).1 h k hk hvd
  obtain ⟨i, hi, hs⟩ := cell_at hc (p := p) (by unfold inBox at *; unfold sqIn at hp; omega)
  have ei : ((i.toNat : Nat) : Int) = i := Int.toNat_of_nonneg hi.1
  refine ⟨i.toNat, by omega, by rw [ei]; exact hs, h2 i (tou_of hi hp hs)⟩
/-- Both are moved alike. -/
def movC (c : ChartS) (b : Pt) : ChartS := { c with x := c.x + b.1, y := c.y + b.2 }
theorem mov_lo (c : ChartS) (b : Pt) (i : Int) : bLo (movC c b) i = ((bLo c i).1 + b.1, (bLo c i).2 + b.2) := by
  unfold bLo movC
  simp only [Prod.mk.injEq]
  omega
theorem mov_hi (c : ChartS) (b : Pt) (i : Int) : bHi (movC c b) i = ((bHi c i).1 + b.1, (bHi c i).2 + b.2) := by
  unfold bHi
  rw [mov_lo]
  show ((bLo c i).1 + b.1 + c.sz - 1, _) = _
  simp only [Prod.mk.injEq]
  refine ⟨by omega, ?_⟩
  show (bLo c i).2 + b.2 + c.sz - 1 = _
  omega
theorem mov_touch (c e : ChartS) (b : Pt) (i : Int) : touC (movC c b) i (movC e b) = touC c i e := by
  refine sorted_ext (unC_lt _ _ _ _) (unC_lt _ _ _ _) fun x => ?_
  show x ∈ touC (movC c b) i (movC e b) ↔ x ∈ touC c i e
  rw [touC_mem, touC_mem, meetsP_iff, meetsP_iff, mov_lo, mov_lo, mov_hi, mov_hi]
  show (0 ≤ x ∧ x < e.cs.length) ∧ _ ↔ _
  simp only
  omega
theorem mov_keeps (c e : ChartS) (b : Pt) : keepsC (movC c b) (movC e b) = keepsC c e := by
  unfold keepsC
  show (List.range e.cs.length).all _ = _
  congr 1
  funext k
  unfold covC
  show ((gce e.cs k).vd || _) = _
  have h1 : inBC (movC c b) (movC e b) k = inBC c e k := by
    unfold inBC
    rw [mov_lo, mov_lo, mov_hi, mov_hi]
    show (_ && _ && decide (_ ≤ (bHi c (c.cs.length - 1)).1 + b.1) && decide (_ ≤ (bHi c (c.cs.length - 1)).2 + b.2)) = _
    simp only [Int.add_le_add_iff_right]
  have h2 : ∀ g, anyT (movC c b) (movC e b) k g = anyT c e k g := fun g => by
    unfold anyT
    rw [mov_touch]
    rfl
  rw [h1, h2, h2, h2]
  rfl
end Go.Proofs.YtegmjmdkhbibjaaGreat

/- The reference's translation: lists of integers, Touch, Cells. -/
namespace Go.Proofs.YtegmjmdkhbibjaaGreat
open Go Go.V Go.RowKit
theorem gi_ext {l r : List Int} (h : l.length = r.length) (he : ∀ j, j < l.length → gi l j = gi r j) : l = r := by
  refine List.ext_getElem h fun j h1 h2 => ?_
  rw [← gi_eq h1, ← gi_eq h2]; exact he j h1
set_option maxRecDepth 20000 in
theorem SameInts15_fn (v w : Value) (l r : List Int) (M : Mem) (hv : IntsV M v l) (hw : IntsV M w r) : FnP Tryz.prog 14 [v, w] M [.bool (decide (l = r))] := by
  obtain ⟨ad, c, rfl, hm, hrd⟩ := hv.get
  obtain ⟨bd, k, rfl, hm2, hrd2⟩ := hw.get
  refine Fn.of_vc cxOK Tryz.func14 rfl rfl rfl ?_
  repeat (first | refine VIf.tt ?_ | refine VIf.ff ?_)
  refine VIf.mk (fun h => ?_) (fun h => ?_)
  · have h : ¬ ((l.length : Int) = r.length) := fun e => by simp [e] at h
    repeat (first | refine VIf.tt ?_ | refine VIf.ff ?_)
    exact VFact.mk ⟨by rw [decide_eq_false (fun e => h (by rw [e]))], rfl⟩ trivial
  have h : l.length = r.length := by
    refine Classical.byContradiction fun hn => ?_
    have : ¬ ((l.length : Int) = r.length) := by omega
    simp [this] at h
  repeat (first | refine VIf.tt ?_ | refine VIf.ff ?_)
  refine VCode.loop cxOK Nat (fun i => ⟨[(0, .v (.slice ad l.length c)), (1, .v (.slice bd r.length k)), (5, .v (.int .i64 i))], [], 0, M, 26, ⟨fun _ => none, none, fun _ => none⟩⟩)
    (fun i => i ≤ l.length ∧ ∀ j, j < i → gi l j = gi r j) (fun i => l.length - i) 0 ⟨Nat.zero_le _, fun j hj => absurd hj (Nat.not_lt_zero _)⟩ (Wk.mk' id (by repeat' constructor) (by repeat' constructor) (injOK_id _) rfl rfl rfl) ?_
  rintro i ⟨hi, hz⟩ m
  repeat (first | refine VIf.tt ?_ | refine VIf.ff ?_)
  refine VIf.mk (fun hlt => ?_) (fun hge => ?_)
  · have hlt := lt_of_dec hlt
    obtain ⟨a1, e1, _, p1⟩ := hrd M (Mem.le_refl _) i hlt
    obtain ⟨a2, e2, _, p2⟩ := hrd2 M (Mem.le_refl _) i (by omega)
    repeat (first | refine VIf.tt ?_ | refine VIf.ff ?_)
    refine VDraw.go (by kernel_rfl) ?_
    repeat (first | refine VIf.tt ?_ | refine VIf.ff ?_)
    refine VIdx.mk a1 i e1 rfl hlt ?_
    repeat (first | refine VIf.tt ?_ | refine VIf.ff ?_)
    refine VRead.mk _ p1 ?_
    repeat (first | refine VIf.tt ?_ | refine VIf.ff ?_)
    refine VIdx.mk a2 i e2 rfl (by omega) ?_
    repeat (first | refine VIf.tt ?_ | refine VIf.ff ?_)
    refine VRead.mk _ p2 ?_
    repeat (first | refine VIf.tt ?_ | refine VIf.ff ?_)
    refine VIf.mk (fun hc => ?_) (fun hc => ?_)
    · have hc : ¬ (gi l i = gi r i) := fun e => by simp [e] at hc
      repeat (first | refine VIf.tt ?_ | refine VIf.ff ?_)
      exact VFact.mk ⟨by rw [decide_eq_false (fun e => hc (by rw [e]))], rfl⟩ trivial
    · have hc : gi l i = gi r i := Classical.byContradiction fun hn => by simp [hn] at hc
      repeat (first | refine VIf.tt ?_ | refine VIf.ff ?_)
      refine VArith.ok (by first | omega | (simp only; omega)) (by first | omega | (simp only; omega)) ?_
      refine ⟨i + 1, ⟨hlt, fun j hj => ?_⟩, (by first | omega | (simp only; omega)), (Wk.mk' id (by repeat' constructor) (by repeat' constructor) (injOK_id _) rfl rfl rfl)⟩
      by_cases e : j = i
      · subst e; exact hc
      · exact hz j (by omega)
  · have : i = l.length := by have := ge_of_dec hge; omega
    subst this
    repeat (first | refine VIf.tt ?_ | refine VIf.ff ?_)
    exact VFact.mk ⟨by rw [decide_eq_true (gi_ext h hz)], rfl⟩ trivial
theorem Has18_fn (v : Value) (l : List Int) (n : Int) (M : Mem) (hv : IntsV M v l) : FnP Tryz.prog 20 [v, .int .i64 n] M [.bool (decide (n ∈ l))] := by
  obtain ⟨ad, c, rfl, hm, hrd⟩ := hv.get
  refine Fn.of_vc cxOK Tryz.func20 rfl rfl rfl ?_
  repeat (first | refine VIf.tt ?_ | refine VIf.ff ?_)
  refine VCode.loop cxOK Nat (fun i => ⟨[(0, .v (.slice ad l.length c)), (1, .v (.int .i64 n)), (5, .v (.int .i64 i))], [], 0, M, 18, ⟨fun _ => none, none, fun _ => none⟩⟩)
    (fun i => i ≤ l.length ∧ ∀ j, j < i → gi l j ≠ n) (fun i => l.length - i) 0 ⟨Nat.zero_le _, fun j hj => absurd hj (Nat.not_lt_zero _)⟩ (Wk.mk' id (by repeat' constructor) (by repeat' constructor) (injOK_id _) rfl rfl rfl) ?_
  rintro i ⟨hi, hz⟩ m
  repeat (first | refine VIf.tt ?_ | refine VIf.ff ?_)
  refine VIf.mk (fun hlt => ?_) (fun hge => ?_)
  · have hlt := lt_of_dec hlt
    obtain ⟨a1, e1, _, p1⟩ := hrd M (Mem.le_refl _) i hlt
    repeat (first | refine VIf.tt ?_ | refine VIf.ff ?_)
    refine VIdx.mk a1 i e1 rfl hlt ?_
    repeat (first | refine VIf.tt ?_ | refine VIf.ff ?_)
    refine VRead.mk _ p1 ?_
    repeat (first | refine VIf.tt ?_ | refine VIf.ff ?_)
    refine VIf.mk (fun hc => ?_) (fun hc => ?_)
    · have hc : gi l i = n := Classical.byContradiction fun hn => by simp [hn] at hc
      repeat (first | refine VIf.tt ?_ | refine VIf.ff ?_)
      exact VFact.mk ⟨by rw [decide_eq_true (hc ▸ gi_mem hlt)], rfl⟩ trivial
    · have hc : gi l i ≠ n := fun e => by simp [e] at hc
      repeat (first | refine VIf.tt ?_ | refine VIf.ff ?_)
      refine VArith.ok (by first | omega | (simp only; omega)) (by first | omega | (simp only; omega)) ?_
      refine ⟨i + 1, ⟨hlt, fun j hj => ?_⟩, (by first | omega | (simp only; omega)), (Wk.mk' id (by repeat' constructor) (by repeat' constructor) (injOK_id _) rfl rfl rfl)⟩
      by_cases e : j = i
      · subst e; exact hc
      · exact hz j (by omega)
  · have : i = l.length := by have := ge_of_dec hge; omega
    subst this
    repeat (first | refine VIf.tt ?_ | refine VIf.ff ?_)
    refine VFact.mk ⟨?_, rfl⟩ trivial
    rw [decide_eq_false]
    intro h
    obtain ⟨j, hj, e⟩ := List.getElem_of_mem h
    exact hz j hj ((gi_eq hj).trans e)
set_option maxRecDepth 20000 in
set_option maxHeartbeats 2000000 in
theorem Rising18_fn (c : ChartS) (a b d v : Value) (l : List Int) (M : Mem) (h : Cha M c a b d) (hv : IntsV M v l) : FnP Tryz.prog 26 [chV c a b d, v] M [.bool (decide (RisingI c.cs.length l))] := by
  obtain ⟨ld, lc, rfl, hm, hrd⟩ := hv.get
  obtain ⟨⟨ad, ka, rfl⟩, ⟨bd, kb, rfl⟩, dd, kd, rfl⟩ := h.shape
  have bad : ∀ i, i < l.length → ¬ ((0 ≤ gi l i ∧ gi l i < c.cs.length) ∧ (0 < i → gi l (i - 1) < gi l i)) → decide (RisingI c.cs.length l) = false := fun i hi hn => decide_eq_false fun hr => hn (hr i hi)
  refine Fn.of_vc cxOK Tryz.func26 rfl rfl rfl ?_
  repeat (first | refine VIf.tt ?_ | refine VIf.ff ?_)
  refine VCode.loop cxOK Nat (fun i => ⟨[(1, .v (.slice ld l.length lc)), (2, .box 0 0), (5, .v (.int .i64 i))], [(0, some (.box 26 (chSV c (.slice ad c.cs.length ka) (.slice bd c.bs.length kb) (.slice dd c.ls.length kd))))], 1, M, 43, ⟨fun _ => none, none, fun _ => none⟩⟩)
    (fun i => i ≤ l.length ∧ ∀ j, j < i → (0 ≤ gi l j ∧ gi l j < c.cs.length) ∧ (0 < j → gi l (j - 1) < gi l j)) (fun i => l.length - i) 0 ⟨Nat.zero_le _, fun j hj => absurd hj (Nat.not_lt_zero _)⟩ (Wk.mk' id (by repeat' constructor) (by repeat' constructor) (injOK_id _) rfl rfl rfl) ?_
  rintro i ⟨hi, hz⟩ m
  repeat (first | refine VIf.tt ?_ | refine VIf.ff ?_)
  refine VIf.mk (fun hlt => ?_) (fun hge => ?_)
  · have hlt := lt_of_dec hlt
    obtain ⟨a1, e1, _, p1⟩ := hrd M (Mem.le_refl _) i hlt
    repeat (first | refine VIf.tt ?_ | refine VIf.ff ?_)
    refine VDraw.go (by kernel_rfl) ?_
    repeat (first | refine VIf.tt ?_ | refine VIf.ff ?_)
    refine VIdx.mk a1 i e1 rfl hlt ?_
    repeat (first | refine VIf.tt ?_ | refine VIf.ff ?_)
    refine VRead.mk _ p1 ?_
    repeat (first | refine VIf.tt ?_ | refine VIf.ff ?_)
    refine VIf.mk (fun h1 => ?_) (fun h1 => ?_)
    · have h1 := of_decide_eq_true h1
      repeat (first | refine VIf.tt ?_ | refine VIf.ff ?_)
      exact VFact.mk ⟨by rw [bad i hlt (by omega)], rfl⟩ trivial
    have h1 := of_decide_eq_false h1
    repeat (first | refine VIf.tt ?_ | refine VIf.ff ?_)
    refine VIdx.mk a1 i e1 rfl hlt ?_
    repeat (first | refine VIf.tt ?_ | refine VIf.ff ?_)
    refine VRead.mk _ p1 ?_
    repeat (first | refine VIf.tt ?_ | refine VIf.ff ?_)
    refine VIf.mk (fun h2 => ?_) (fun h2 => ?_)
    · have h2 := of_decide_eq_true h2
      repeat (first | refine VIf.tt ?_ | refine VIf.ff ?_)
      exact VFact.mk ⟨by rw [bad i hlt (by omega)], rfl⟩ trivial
    have h2 := of_decide_eq_false h2
    repeat (first | refine VIf.tt ?_ | refine VIf.ff ?_)
    refine VIf.mk (fun h3 => ?_) (fun h3 => ?_)
    · have h3 : 0 < i := by have := of_decide_eq_true h3; omega
      obtain ⟨a2, e2, _, p2⟩ := hrd M (Mem.le_refl _) (i - 1) (by omega)
      repeat (first | refine VIf.tt ?_ | refine VIf.ff ?_)
      refine VIdx.mk a1 i e1 rfl hlt ?_
      repeat (first | refine VIf.tt ?_ | refine VIf.ff ?_)
      refine VRead.mk _ p1 ?_
      repeat (first | refine VIf.tt ?_ | refine VIf.ff ?_)
      refine VArith.ok (by first | omega | (simp only; omega)) (by first | omega | (simp only; omega)) ?_
      repeat (first | refine VIf.tt ?_ | refine VIf.ff ?_)
      refine VIdx.mk a2 (i - 1) e2 (by omega) (by omega) ?_
      repeat (first | refine VIf.tt ?_ | refine VIf.ff ?_)
      refine VRead.mk _ p2 ?_
      repeat (first | refine VIf.tt ?_ | refine VIf.ff ?_)
      refine VIf.mk (fun h4 => ?_) (fun h4 => ?_)
      · have h4 := of_decide_eq_true h4
        repeat (first | refine VIf.tt ?_ | refine VIf.ff ?_)
        exact VFact.mk ⟨by rw [bad i hlt (fun hh => by have := hh.2 h3; omega)], rfl⟩ trivial
      have h4 := of_decide_eq_false h4
      repeat (first | refine VIf.tt ?_ | refine VIf.ff ?_)
      refine VArith.ok (by first | omega | (simp only; omega)) (by first | omega | (simp only; omega)) ?_
      refine ⟨i + 1, ⟨hlt, fun j hj => ?_⟩, (by first | omega | (simp only; omega)), (Wk.mk' id (by repeat' constructor) (by repeat' constructor) (injOK_id _) rfl rfl rfl)⟩
      by_cases e : j = i
      · subst e; exact ⟨by omega, fun _ => by omega⟩
      · exact hz j (by omega)
    · have h3 : ¬ 0 < i := by have := of_decide_eq_false h3; omega
      repeat (first | refine VIf.tt ?_ | refine VIf.ff ?_)
      refine VArith.ok (by first | omega | (simp only; omega)) (by first | omega | (simp only; omega)) ?_
      refine ⟨i + 1, ⟨hlt, fun j hj => ?_⟩, (by first | omega | (simp only; omega)), (Wk.mk' id (by repeat' constructor) (by repeat' constructor) (injOK_id _) rfl rfl rfl)⟩
      by_cases e : j = i
      · subst e; exact ⟨by omega, fun h => absurd h h3⟩
      · exact hz j (by omega)
  · have : i = l.length := by have := ge_of_dec hge; omega
    subst this
    repeat (first | refine VIf.tt ?_ | refine VIf.ff ?_)
    exact VFact.mk ⟨by rw [decide_eq_true (show RisingI c.cs.length l from hz)], rfl⟩ trivial
theorem Touching_fn (c e : ChartS) (a b d a2 b2 d2 : Value) (i : Int) (M : Mem) (h : Cha M c a b d) (h2 : Cha M e a2 b2 d2) (hF : frameC c) (hE : frameC e) (hi : 0 ≤ i ∧ i < c.cs.length) : V.Fn Tryz.prog 31 [chV c a b d, .int .i64 i, chV e a2 b2 d2] M fun rs M' => ∃ u, rs = [u] ∧ IntsV M' u (touC c i e) := by
  have hB := Bounds15_fn c a b d i M h hF hi
  have hU := fun M' (hM : M.le M') => Under15_fn e a2 b2 d2 (bLo c i) (bHi c i) M' (h2.le hM) hE
  obtain ⟨⟨ad, ka, rfl⟩, ⟨bd, kb, rfl⟩, dd, kd, rfl⟩ := h.shape
  obtain ⟨⟨ad2, ka2, rfl⟩, ⟨bd2, kb2, rfl⟩, dd2, kd2, rfl⟩ := h2.shape
  refine Fn.of_vc cxOK Tryz.func31 rfl rfl rfl ?_
  repeat (first | refine VIf.tt ?_ | refine VIf.ff ?_)
  refine VFn.mk _ hB ?_
  rintro rs M1 hM1 rfl
  repeat (first | refine VIf.tt ?_ | refine VIf.ff ?_)
  refine VFn.mk _ (hU M1 hM1) ?_
  rintro rs M2 hM2 ⟨u, rfl, hu⟩
  repeat (first | refine VIf.tt ?_ | refine VIf.ff ?_)
  exact VFact.mk (show ∃ u', _ = _ ∧ _ from ⟨u, rfl, hu⟩) trivial
theorem Touch30_fn (c e : ChartS) (a b d a2 b2 d2 : Value) (i : Int) (M : Mem) (h : Cha M c a b d) (h2 : Cha M e a2 b2 d2) : V.Fn Tryz.prog 13 [chV c a b d, .int .i64 i, chV e a2 b2 d2] M fun rs M' => if (sqOK c i && validC e) = true then ∃ u, rs = [u, .int .i64 0] ∧ IntsV M' u (touC c i e) else rs = [.slice none 0 0, .int .i64 1] := by
  have hv1 := Valid15_fn c a b d M h
  have hv2 := Valid15_fn e a2 b2 d2 M h2
  have hT := fun hF hE hi => Touching_fn c e a b d a2 b2 d2 i M h h2 hF hE hi
  obtain ⟨⟨ad, ka, rfl⟩, ⟨bd, kb, rfl⟩, dd, kd, rfl⟩ := h.shape
  obtain ⟨⟨ad2, ka2, rfl⟩, ⟨bd2, kb2, rfl⟩, dd2, kd2, rfl⟩ := h2.shape
  have bad : (sqOK c i && validC e) = false → ∀ M' : Mem, (if (sqOK c i && validC e) = true then ∃ u, ([.slice none 0 0, .int .i64 1] : List Value) = [u, .int .i64 0] ∧ IntsV M' u (touC c i e) else ([.slice none 0 0, .int .i64 1] : List Value) = [.slice none 0 0, .int .i64 1]) := fun e M' => by
    rw [if_neg (by rw [e]; decide)]
  refine Fn.of_vc cxOK Tryz.func13 rfl rfl rfl ?_
  repeat (first | refine VIf.tt ?_ | refine VIf.ff ?_)
  refine VFn.p hv1 ?_
  repeat (first | refine VIf.tt ?_ | refine VIf.ff ?_)
  refine VIf.mk (fun e1 => ?_) (fun e1 => ?_)
  · repeat (first | refine VIf.tt ?_ | refine VIf.ff ?_)
    exact VFact.mk (bad (by unfold sqOK; rw [(Bool.not_eq_true' _).mp e1]; rfl) _) trivial
  have hV1 := (Bool.not_eq_false' _).mp e1
  repeat (first | refine VIf.tt ?_ | refine VIf.ff ?_)
  refine VFn.p hv2 ?_
  repeat (first | refine VIf.tt ?_ | refine VIf.ff ?_)
  refine VIf.mk (fun e2 => ?_) (fun e2 => ?_)
  · repeat (first | refine VIf.tt ?_ | refine VIf.ff ?_)
    exact VFact.mk (bad (by rw [(Bool.not_eq_true' _).mp e2, Bool.and_false]) _) trivial
  have hV2 := (Bool.not_eq_false' _).mp e2
  have out : ¬ (0 ≤ i ∧ i < c.cs.length) → (sqOK c i && validC e) = false := fun hn => by unfold sqOK; rw [decide_eq_false hn, Bool.and_false]; rfl
  repeat (first | refine VIf.tt ?_ | refine VIf.ff ?_)
  refine VIf.mk (fun e3 => ?_) (fun e3 => ?_)
  · have e3 := of_decide_eq_true e3
    repeat (first | refine VIf.tt ?_ | refine VIf.ff ?_)
    exact VFact.mk (bad (out (by omega)) _) trivial
  have e3 := of_decide_eq_false e3
  repeat (first | refine VIf.tt ?_ | refine VIf.ff ?_)
  refine VIf.mk (fun e4 => ?_) (fun e4 => ?_)
  · have e4 := of_decide_eq_true e4
    repeat (first | refine VIf.tt ?_ | refine VIf.ff ?_)
    exact VFact.mk (bad (out (by omega)) _) trivial
  have e4 := of_decide_eq_false e4
  repeat (first | refine VIf.tt ?_ | refine VIf.ff ?_)
  refine VFn.mk _ (hT (validC_frame hV1) (validC_frame hV2) ⟨by omega, by omega⟩) ?_
  rintro rs M1 hM1 ⟨u, rfl, hu⟩
  repeat (first | refine VIf.tt ?_ | refine VIf.ff ?_)
  refine VFact.mk ?_ trivial
  dsimp only
  rw [if_pos (by rw [sqOK_of hV1 ⟨by omega, by omega⟩, hV2]; rfl)]
  exact ⟨u, rfl, hu⟩
/-- What some of the cells touch. -/
def anyTo (c e : ChartS) (l : List Int) (k : Int) (n : Nat) : Bool := (List.range n).any fun j => decide (k ∈ touC c (gi l j) e)
theorem anyTo_succ (c e : ChartS) (l : List Int) (k : Int) (n : Nat) : anyTo c e l k (n + 1) = (anyTo c e l k n || decide (k ∈ touC c (gi l n) e)) := by
  unfold anyTo
  rw [List.range_succ, List.any_append]; simp
def celC (c e : ChartS) (l : List Int) (n : Nat) : List Int := ((List.range n).filter fun k : Nat => anyTo c e l (k : Int) l.length).map fun k : Nat => (k : Int)
theorem celC_succ (c e : ChartS) (l : List Int) (n : Nat) : celC c e l (n + 1) = if anyTo c e l n l.length = true then celC c e l n ++ [(n : Int)] else celC c e l n := by
  unfold celC
  rw [List.range_succ, List.filter_append, List.map_append]
  by_cases h : anyTo c e l n l.length = true <;> simp [h]
theorem celC_len (c e : ChartS) (l : List Int) (k : Nat) : (celC c e l k).length ≤ k := by
  unfold celC
  rw [List.length_map]
  exact Nat.le_trans (List.length_filter_le _ _) (by rw [List.length_range]; exact Nat.le_refl _)
theorem celC_is (c e : ChartS) (l : List Int) : IsCel c e l (celC c e l e.cs.length) := by
  refine ⟨?_, fun x => ?_⟩
  · unfold celC
    exact List.pairwise_map.2 ((List.pairwise_lt_range.filter _).imp fun {i j} h => by omega)
  · unfold celC anyTo
    simp only [List.mem_map, List.mem_filter, List.mem_range, List.any_eq_true, decide_eq_true_eq]
    constructor
    · rintro ⟨k, ⟨hk, j, hj, h⟩, rfl⟩
      exact ⟨_, gi_mem hj, h⟩
    · rintro ⟨i, hi, h⟩
      obtain ⟨j, hj, rfl⟩ := List.getElem_of_mem hi
      have hb := touC_bd h
      have ex : ((x.toNat : Nat) : Int) = x := Int.toNat_of_nonneg hb.1
      exact ⟨x.toNat, ⟨by omega, j, hj, by rw [ex, gi_eq hj]; exact h⟩, ex⟩
end Go.Proofs.YtegmjmdkhbibjaaGreat

/- The reference's translation: Cells, Keeps. -/
namespace Go.Proofs.YtegmjmdkhbibjaaGreat
open Go Go.V Go.RowKit
theorem rising_get {n : Nat} {l : List Int} (h : RisingI n l) {j : Nat} (hj : j < l.length) : 0 ≤ gi l j ∧ gi l j < n := (h j hj).1
set_option maxRecDepth 20000 in
set_option maxHeartbeats 4000000 in
theorem Cells30_fn (c e : ChartS) (a b d a2 b2 d2 v : Value) (l : List Int) (M : Mem) (h : Cha M c a b d) (h2 : Cha M e a2 b2 d2) (hv : IntsV M v l) : V.Fn Tryz.prog 16 [chV c a b d, chV e a2 b2 d2, v] M fun rs M' => if celOK c e l = true then ∃ u zs, rs = [u, .int .i64 0] ∧ IntsV M' u zs ∧ IsCel c e l zs else rs = [.slice none 0 0, .int .i64 1] := by
  have hv1 := Valid15_fn c a b d M h
  have hv2 := Valid15_fn e a2 b2 d2 M h2
  have hR := Rising18_fn c a b d v l M h hv
  have hT := fun M' (hM : M.le M') i hF hE hi => Touching_fn c e a b d a2 b2 d2 i M' (h.le hM) (h2.le hM) hF hE hi
  obtain ⟨ld, lc, rfl, hm, hrd⟩ := hv.get
  obtain ⟨⟨ad, ka, rfl⟩, ⟨bd, kb, rfl⟩, dd, kd, rfl⟩ := h.shape
  obtain ⟨⟨ad2, ka2, rfl⟩, ⟨bd2, kb2, rfl⟩, dd2, kd2, rfl⟩ := h2.shape
  refine Fn.of_vc cxOK Tryz.func16 rfl rfl rfl ?_
  repeat (first | refine VIf.tt ?_ | refine VIf.ff ?_)
  refine VFn.p hv1 ?_
  repeat (first | refine VIf.tt ?_ | refine VIf.ff ?_)
  refine VIf.mk (fun e1 => ?_) (fun e1 => ?_)
  · repeat (first | refine VIf.tt ?_ | refine VIf.ff ?_)
    exact VFact.mk (by unfold celOK; rw [(Bool.not_eq_true' _).mp e1]; rfl) trivial
  have hV1 := (Bool.not_eq_false' _).mp e1
  repeat (first | refine VIf.tt ?_ | refine VIf.ff ?_)
  refine VFn.p hv2 ?_
  repeat (first | refine VIf.tt ?_ | refine VIf.ff ?_)
  refine VIf.mk (fun e2 => ?_) (fun e2 => ?_)
  · repeat (first | refine VIf.tt ?_ | refine VIf.ff ?_)
    exact VFact.mk (by unfold celOK; rw [(Bool.not_eq_true' _).mp e2, Bool.and_false]; rfl) trivial
  have hV2 := (Bool.not_eq_false' _).mp e2
  repeat (first | refine VIf.tt ?_ | refine VIf.ff ?_)
  refine VFn.p hR ?_
  repeat (first | refine VIf.tt ?_ | refine VIf.ff ?_)
  refine VIf.mk (fun e3 => ?_) (fun e3 => ?_)
  · repeat (first | refine VIf.tt ?_ | refine VIf.ff ?_)
    exact VFact.mk (by unfold celOK; rw [(Bool.not_eq_true' _).mp e3, Bool.and_false]; rfl) trivial
  have hV3 : decide (RisingI c.cs.length l) = true := (Bool.not_eq_false' _).mp e3
  have hRi := of_decide_eq_true hV3
  have hok : celOK c e l = true := by unfold celOK; rw [hV1, hV2, hV3]; rfl
  have hF1 := validC_frame hV1
  have hF2 := validC_frame hV2
  have e4 := hF2.1.2.2.2.2.1
  repeat (first | refine VIf.tt ?_ | refine VIf.ff ?_)
  refine VCode.loop cxOK (Nat × List Int × Mem) (fun (⟨k, us, M1⟩ : Nat × List Int × Mem) => ⟨[(2, .v (.slice ld l.length lc)), (3, .box 0 0), (4, .box 1 0), (8, .row 2), (9, .v (.int .i64 k))], [(0, some (.box 26 (chSV c (.slice ad c.cs.length ka) (.slice bd c.bs.length kb) (.slice dd c.ls.length kd)))), (1, some (.box 26 (chSV e (.slice ad2 e.cs.length ka2) (.slice bd2 e.bs.length kb2) (.slice dd2 e.ls.length kd2)))), (2, some (.row 3 1 us.length (us.map (Value.int .i64))))], 3, M1, 57, ⟨fun _ => none, none, fun _ => none⟩⟩)
    (fun (⟨k, us, M1⟩ : Nat × List Int × Mem) => (M.le M1 ∧ k ≤ e.cs.length) ∧ us = celC c e l k) (fun (⟨k, _, _⟩ : Nat × List Int × Mem) => e.cs.length - k) (0, [], M) ⟨⟨Mem.le_refl _, Nat.zero_le _⟩, rfl⟩ ?_ ?_
  · exact Wk.nil 8 3 1 rfl (Wk.mk' id (by repeat' constructor) (by repeat' constructor) (injOK_id _) rfl rfl rfl)
  rintro ⟨k, us, M1⟩ ⟨⟨hM1, hk⟩, hus⟩ m
  have hul : us.length ≤ k := by rw [hus]; exact celC_len c e l k
  repeat (first | refine VIf.tt ?_ | refine VIf.ff ?_)
  refine VIf.mk (fun hlt => ?_) (fun hge => ?_)
  rotate_left
  · have : k = e.cs.length := by have := ge_of_dec hge; omega
    subst this
    repeat (first | refine VIf.tt ?_ | refine VIf.ff ?_)
    refine VFz.mk fun x B M2 hM2 hx => ?_
    repeat (first | refine VIf.tt ?_ | refine VIf.ff ?_)
    refine VFact.mk ?_ trivial
    dsimp only
    rw [hok, if_pos rfl]
    have hi := celC_is c e l
    rw [← hus] at hi
    exact ⟨x, us, rfl, IntsV.of hx (fun i hm => by
      obtain ⟨j, _, hj⟩ := (hi.2 i).1 hm
      have := touC_bd hj
      unfold i64r; omega), hi⟩
  have hlt : k < e.cs.length := lt_of_dec hlt
  repeat (first | refine VIf.tt ?_ | refine VIf.ff ?_)
  refine VCode.loop cxOK (Nat × Bool × Mem) (fun (⟨i, t, M2⟩ : Nat × Bool × Mem) => ⟨[(2, .v (.slice ld l.length lc)), (3, .box 0 0), (4, .box 1 0), (8, .row 2), (9, .v (.int .i64 k)), (10, .v (.bool t)), (11, .v (.int .i64 i))], [(0, some (.box 26 (chSV c (.slice ad c.cs.length ka) (.slice bd c.bs.length kb) (.slice dd c.ls.length kd)))), (1, some (.box 26 (chSV e (.slice ad2 e.cs.length ka2) (.slice bd2 e.bs.length kb2) (.slice dd2 e.ls.length kd2)))), (2, some (.row 3 1 us.length (us.map (Value.int .i64))))], 3, M2, 57, ⟨fun _ => none, none, fun _ => none⟩⟩)
    (fun (⟨i, t, M2⟩ : Nat × Bool × Mem) => (M1.le M2 ∧ i ≤ l.length) ∧ t = anyTo c e l k i) (fun (⟨i, _, _⟩ : Nat × Bool × Mem) => l.length - i) (0, false, M1) ⟨⟨Mem.le_refl _, Nat.zero_le _⟩, rfl⟩ (Wk.mk' id (by repeat' constructor) (by repeat' constructor) (injOK_id _) rfl rfl rfl) ?_
  rintro ⟨i, t, M2⟩ ⟨⟨hM2, hi⟩, ht⟩ mm
  repeat (first | refine VIf.tt ?_ | refine VIf.ff ?_)
  refine VIf.mk (fun hli => ?_) (fun hgi => ?_)
  · have hli : i < l.length := lt_of_dec hli
    have m2 := hM1.trans hM2
    obtain ⟨a1, q1, _, p1⟩ := hrd M2 m2 i hli
    have hs := anyTo_succ c e l k i
    repeat (first | refine VIf.tt ?_ | refine VIf.ff ?_)
    refine VDraw.go (by kernel_rfl) ?_
    cases t with
    | true =>
      rw [← ht, Bool.true_or] at hs
      repeat (first | refine VIf.tt ?_ | refine VIf.ff ?_)
      repeat (first | refine VIf.tt ?_ | refine VIf.ff ?_)
      refine VArith.ok (by first | omega | (simp only; omega)) (by first | omega | (simp only; omega)) ?_
      exact ⟨(i + 1, true, M2), ⟨⟨hM2, hli⟩, hs.symm⟩, (by first | omega | (simp only; omega)), (Wk.mk' id (by repeat' constructor) (by repeat' constructor) (injOK_id _) rfl rfl rfl)⟩
    | false =>
      rw [← ht, Bool.false_or] at hs
      repeat (first | refine VIf.tt ?_ | refine VIf.ff ?_)
      refine VIdx.mk a1 i q1 rfl hli ?_
      repeat (first | refine VIf.tt ?_ | refine VIf.ff ?_)
      refine VRead.mk _ p1 ?_
      repeat (first | refine VIf.tt ?_ | refine VIf.ff ?_)
      refine VFn.mk _ (hT M2 m2 (gi l i) hF1 hF2 (rising_get hRi hli)) ?_
      rintro rs M3 hM3 ⟨u, rfl, hu⟩
      have hH := Has18_fn u (touC c (gi l i) e) k M3 hu
      obtain ⟨ud, uc, rfl, _⟩ := hu.get
      repeat (first | refine VIf.tt ?_ | refine VIf.ff ?_)
      refine VFn.p hH ?_
      repeat (first | refine VIf.tt ?_ | refine VIf.ff ?_)
      refine VArith.ok (by first | omega | (simp only; omega)) (by first | omega | (simp only; omega)) ?_
      exact ⟨(i + 1, decide ((k : Int) ∈ touC c (gi l i) e), M3), ⟨⟨hM2.trans hM3, hli⟩, hs.symm⟩, (by first | omega | (simp only; omega)), (Wk.mk' id (by repeat' constructor) (by repeat' constructor) (injOK_id _) rfl rfl rfl)⟩
  · have : i = l.length := by have := ge_of_dec hgi; omega
    subst this
    have hs := celC_succ c e l k
    rw [← hus, ← ht] at hs
    have hb : (us.length + 1) * 8 ≤ 140737488355328 := by omega
    cases t with
    | true =>
      rw [if_pos rfl] at hs
      repeat (first | refine VIf.tt ?_ | refine VIf.ff ?_)
      repeat (first | refine VIf.tt ?_ | refine VIf.ff ?_)
      refine VFact.mk hb ?_
      repeat (first | refine VIf.tt ?_ | refine VIf.ff ?_)
      refine VArith.ok (by first | omega | (simp only; omega)) (by first | omega | (simp only; omega)) ?_
      refine ⟨(k + 1, us ++ [(k : Int)], M2), ⟨⟨hM1.trans hM2, hlt⟩, hs.symm⟩, (by first | omega | (simp only; omega)), Wk.mk' (fun i => if i = 2 then 4 else i) (by repeat' constructor) ⟨⟨rfl, by repeat' constructor⟩, ⟨rfl, by repeat' constructor⟩, ⟨rfl, ⟨rfl, rfl, ?_, ?_⟩⟩, trivial⟩ (by simp [injOK]) rfl rfl rfl⟩
      · rw [List.length_append]; rfl
      · rw [List.map_append]; rfl
    | false =>
      rw [if_neg (by decide)] at hs
      repeat (first | refine VIf.tt ?_ | refine VIf.ff ?_)
      repeat (first | refine VIf.tt ?_ | refine VIf.ff ?_)
      refine VArith.ok (by first | omega | (simp only; omega)) (by first | omega | (simp only; omega)) ?_
      exact ⟨(k + 1, us, M2), ⟨⟨hM1.trans hM2, hlt⟩, hs.symm⟩, (by first | omega | (simp only; omega)), (Wk.mk' id (by repeat' constructor) (by repeat' constructor) (injOK_id _) rfl rfl rfl)⟩
theorem covC_not {c e : ChartS} {k : Nat} {g : CellS → Bool} (hg : ∀ x, g x = true → x.vd = true ∨ x.lo < (gce e.cs k).lo ∨ (gce e.cs k).hi < x.hi) (hvd : (gce e.cs k).vd = false) {i : Int} (hi : i ∈ touC e k c) (h : g (gce c.cs i.toNat) = true) : covC c e k = false := by
  refine Bool.eq_false_iff.2 fun hc => ?_
  unfold covC at hc
  rw [hvd, Bool.false_or] at hc
  simp only [Bool.and_eq_true, anyT_no] at hc
  obtain ⟨⟨⟨_, h1⟩, h2⟩, h3⟩ := hc
  have h1 := h1 i hi
  have h2 := of_decide_eq_false (h2 i hi)
  have h3 := of_decide_eq_false (h3 i hi)
  rcases hg _ h with q | q | q
  · rw [h1] at q; cases q
  · exact h2 q
  · exact h3 q
set_option maxRecDepth 20000 in
set_option maxHeartbeats 4000000 in
theorem covered30_fn (c e : ChartS) (a b d a2 b2 d2 : Value) (k : Nat) (M : Mem) (h : Cha M c a b d) (h2 : Cha M e a2 b2 d2) (hF1 : frameC c) (hF2 : frameC e) (hk : k < e.cs.length) : V.Fn Tryz.prog 58 [chV c a b d, chV e a2 b2 d2, .int .i64 k] M fun rs _ => rs = [.bool (covC c e k)] := by
  have hl1 := len_pos hF1
  have hc1 := hF1.1.2.2.2.2.1
  have hkk : (0 : Int) ≤ (k : Int) ∧ (k : Int) < e.cs.length := by omega
  have hB := fun M' (hM : M.le M') => Bounds15_fn e a2 b2 d2 k M' (h2.le hM) hF2 hkk
  have hB2 := fun M' (hM : M.le M') i hi => Bounds15_fn c a b d i M' (h.le hM) hF1 hi
  have hT := fun M' (hM : M.le M') => Touching_fn e c a2 b2 d2 a b d k M' (h2.le hM) (h.le hM) hF2 hF1 hkk
  obtain ⟨ad2, ka2, ea2, hlm2, hrd2⟩ := h2.cs.get
  obtain ⟨ad, ka, ea, hlm, hrd⟩ := h.cs.get
  obtain ⟨_, ⟨bd, kb, eb⟩, dd, kd, ed⟩ := h.shape
  obtain ⟨_, ⟨bd2, kb2, eb2⟩, dd2, kd2, ed2⟩ := h2.shape
  subst ea; subst eb; subst ed; subst ea2; subst eb2; subst ed2
  refine Fn.of_vc cxOK Tryz.func58 rfl rfl rfl ?_
  obtain ⟨ad', ead, _, hp⟩ := hrd2 M (Mem.le_refl _) k hk
  repeat (first | refine VIf.tt ?_ | refine VIf.ff ?_)
  refine VIdx.mk ad' k ead rfl hk ?_
  repeat (first | refine VIf.tt ?_ | refine VIf.ff ?_)
  refine VReads.mk [.int .i64 (gce e.cs k).lo, .int .i64 (gce e.cs k).hi, .int .i64 (gce e.cs k).dt, .bool (gce e.cs k).vd] rfl hp ?_
  repeat (first | refine VIf.tt ?_ | refine VIf.ff ?_)
  refine VIf.mk (fun hvd => ?_) (fun hvd => ?_)
  · repeat (first | refine VIf.tt ?_ | refine VIf.ff ?_)
    refine VFact.mk ?_ trivial
    have hvd : (gce e.cs k).vd = true := hvd
    have : covC c e k = true := by unfold covC; rw [hvd]; rfl
    rw [this]
  have hvd : (gce e.cs k).vd = false := hvd
  repeat (first | refine VIf.tt ?_ | refine VIf.ff ?_)
  refine VFn.mk _ (hB M (Mem.le_refl _)) ?_
  rintro rs M1 hM1 rfl
  repeat (first | refine VIf.tt ?_ | refine VIf.ff ?_)
  refine VFn.mk _ (hB2 M1 hM1 0 ⟨Int.le_refl _, by omega⟩) ?_
  rintro rs M2 hM2 rfl
  have m2 := hM1.trans hM2
  repeat (first | refine VIf.tt ?_ | refine VIf.ff ?_)
  refine VArith.ok (by first | omega | (simp only; omega)) (by first | omega | (simp only; omega)) ?_
  repeat (first | refine VIf.tt ?_ | refine VIf.ff ?_)
  refine VFn.mk _ (hB2 M2 m2 ((c.cs.length : Int) - 1) ⟨by omega, by omega⟩) ?_
  rintro rs M3 hM3 rfl
  have m3 := m2.trans hM3
  have out : inBC c e k = false → covC c e k = false := fun hb => by unfold covC; rw [hvd, hb]; rfl
  repeat (first | refine VIf.tt ?_ | refine VIf.ff ?_)
  refine VIf.mk (fun q1 => ?_) (fun q1 => ?_)
  · have q1 := of_decide_eq_true q1
    repeat (first | refine VIf.tt ?_ | refine VIf.ff ?_)
    exact VFact.mk (by rw [out (by unfold inBC; rw [decide_eq_false (show ¬ (bLo c 0).1 ≤ (bLo e k).1 by omega)]; rfl)]) trivial
  have q1 := of_decide_eq_false q1
  repeat (first | refine VIf.tt ?_ | refine VIf.ff ?_)
  refine VIf.mk (fun q2 => ?_) (fun q2 => ?_)
  · have q2 := of_decide_eq_true q2
    repeat (first | refine VIf.tt ?_ | refine VIf.ff ?_)
    exact VFact.mk (by rw [out (by unfold inBC; rw [decide_eq_false (show ¬ (bLo c 0).2 ≤ (bLo e k).2 by omega), Bool.and_false]; rfl)]) trivial
  have q2 := of_decide_eq_false q2
  repeat (first | refine VIf.tt ?_ | refine VIf.ff ?_)
  refine VIf.mk (fun q3 => ?_) (fun q3 => ?_)
  · have q3 := of_decide_eq_true q3
    repeat (first | refine VIf.tt ?_ | refine VIf.ff ?_)
    exact VFact.mk (by rw [out (by unfold inBC; rw [decide_eq_false (show ¬ (bHi e k).1 ≤ (bHi c (c.cs.length - 1)).1 by omega), Bool.and_false]; rfl)]) trivial
  have q3 := of_decide_eq_false q3
  repeat (first | refine VIf.tt ?_ | refine VIf.ff ?_)
  refine VIf.mk (fun q4 => ?_) (fun q4 => ?_)
  · have q4 := of_decide_eq_true q4
    repeat (first | refine VIf.tt ?_ | refine VIf.ff ?_)
    exact VFact.mk (by rw [out (by unfold inBC; rw [decide_eq_false (show ¬ (bHi e k).2 ≤ (bHi c (c.cs.length - 1)).2 by omega), Bool.and_false])]) trivial
  have q4 := of_decide_eq_false q4
  have hin : inBC c e k = true := by
    unfold inBC
    rw [decide_eq_true (show (bLo c 0).1 ≤ (bLo e k).1 by omega), decide_eq_true (show (bLo c 0).2 ≤ (bLo e k).2 by omega), decide_eq_true (show (bHi e k).1 ≤ (bHi c (c.cs.length - 1)).1 by omega), decide_eq_true (show (bHi e k).2 ≤ (bHi c (c.cs.length - 1)).2 by omega)]
    rfl
  repeat (first | refine VIf.tt ?_ | refine VIf.ff ?_)
  refine VFn.mk _ (hT M3 m3) ?_
  rintro rs M4 hM4 ⟨u, rfl, hu⟩
  have m4 := m3.trans hM4
  have hgt : ∀ j, j < (touC e k c).length → 0 ≤ gi (touC e k c) j ∧ gi (touC e k c) j < c.cs.length := fun j hj => touC_bd (i := (k : Int)) (c := e) (gi_mem hj)
  have hlen : (touC e k c).length ≤ c.cs.length := underC_len c _ _
  obtain ⟨ud, uc, rfl, hum, hur⟩ := hu.get
  repeat (first | refine VIf.tt ?_ | refine VIf.ff ?_)
  refine VCode.loop cxOK Nat (fun i => ⟨[(3, .box 0 0), (7, .box 2 0), (14, .v (.slice ud (touC e k c).length uc)), (15, .v (.int .i64 i))], [(0, some (.box 26 (chSV c (.slice ad c.cs.length ka) (.slice bd c.bs.length kb) (.slice dd c.ls.length kd)))), (2, some (.box 56 [.v (.int .i64 (gce e.cs k).lo), .v (.int .i64 (gce e.cs k).hi), .v (.int .i64 (gce e.cs k).dt), .v (.bool (gce e.cs k).vd)]))], 9, M4, 108, ⟨fun _ => none, none, fun _ => none⟩⟩)
    (fun i => i ≤ (touC e k c).length ∧ ∀ j, j < i → (gce c.cs (gi (touC e k c) j).toNat).vd = false ∧ ¬ (gce c.cs (gi (touC e k c) j).toNat).lo < (gce e.cs k).lo ∧ ¬ (gce c.cs (gi (touC e k c) j).toNat).hi > (gce e.cs k).hi) (fun i => (touC e k c).length - i) 0 ⟨Nat.zero_le _, fun j hj => absurd hj (Nat.not_lt_zero _)⟩ (Wk.mk' id (by repeat' constructor) (by repeat' constructor) (injOK_id _) rfl rfl rfl) ?_
  rintro i ⟨hi, hok⟩ m
  repeat (first | refine VIf.tt ?_ | refine VIf.ff ?_)
  refine VIf.mk (fun hlt => ?_) (fun hge => ?_)
  rotate_left
  · have : i = (touC e k c).length := by have := ge_of_dec hge; omega
    subst this
    repeat (first | refine VIf.tt ?_ | refine VIf.ff ?_)
    refine VFact.mk ?_ trivial
    have al : ∀ g : CellS → Bool, (∀ x : CellS, x.vd = false → ¬ x.lo < (gce e.cs k).lo → ¬ x.hi > (gce e.cs k).hi → g x = false) → (!anyT c e k g) = true := fun g hg => anyT_no.2 fun i hi => by
      obtain ⟨j, hj, rfl⟩ := List.getElem_of_mem hi
      rw [← gi_eq hj]
      exact hg _ (hok j hj).1 (hok j hj).2.1 (hok j hj).2.2
    have : covC c e k = true := by
      unfold covC
      rw [hin, al (·.vd) (fun x h1 _ _ => h1), al (fun x => decide (x.lo < (gce e.cs k).lo)) (fun x _ h2 _ => decide_eq_false h2), al (fun x => decide (x.hi > (gce e.cs k).hi)) (fun x _ _ h3 => decide_eq_false h3), hvd]
      rfl
    rw [this]
  have hlt : i < (touC e k c).length := lt_of_dec hlt
  obtain ⟨a1, e1, _, p1⟩ := hur M4 (Mem.le_refl _) i hlt
  have hg := hgt i hlt
  obtain ⟨a3, e3, _, p3⟩ := hrd M4 m4 (gi (touC e k c) i).toNat (by omega)
  repeat (first | refine VIf.tt ?_ | refine VIf.ff ?_)
  refine VDraw.go (by kernel_rfl) ?_
  repeat (first | refine VIf.tt ?_ | refine VIf.ff ?_)
  refine VIdx.mk a1 i e1 rfl hlt ?_
  repeat (first | refine VIf.tt ?_ | refine VIf.ff ?_)
  refine VRead.mk _ p1 ?_
  repeat (first | refine VIf.tt ?_ | refine VIf.ff ?_)
  refine VIdx.mk a3 (gi (touC e k c) i).toNat e3 (by omega) (by omega) ?_
  repeat (first | refine VIf.tt ?_ | refine VIf.ff ?_)
  refine VReads.mk [.int .i64 (gce c.cs (gi (touC e k c) i).toNat).lo, .int .i64 (gce c.cs (gi (touC e k c) i).toNat).hi, .int .i64 (gce c.cs (gi (touC e k c) i).toNat).dt, .bool (gce c.cs (gi (touC e k c) i).toNat).vd] rfl p3 ?_
  repeat (first | refine VIf.tt ?_ | refine VIf.ff ?_)
  refine VIf.mk (fun v1 => ?_) (fun v1 => ?_)
  · have v1 : (gce c.cs (gi (touC e k c) i).toNat).vd = true := v1
    repeat (first | refine VIf.tt ?_ | refine VIf.ff ?_)
    exact VFact.mk (by rw [covC_not (g := (·.vd)) (fun x hx => .inl hx) hvd (gi_mem hlt) v1]) trivial
  have v1 : (gce c.cs (gi (touC e k c) i).toNat).vd = false := v1
  repeat (first | refine VIf.tt ?_ | refine VIf.ff ?_)
  refine VIf.mk (fun v2 => ?_) (fun v2 => ?_)
  · repeat (first | refine VIf.tt ?_ | refine VIf.ff ?_)
    exact VFact.mk (by rw [covC_not (g := fun x => decide (x.lo < (gce e.cs k).lo)) (fun x hx => .inr (.inl (of_decide_eq_true hx))) hvd (gi_mem hlt) v2]) trivial
  repeat (first | refine VIf.tt ?_ | refine VIf.ff ?_)
  refine VIf.mk (fun v3 => ?_) (fun v3 => ?_)
  · repeat (first | refine VIf.tt ?_ | refine VIf.ff ?_)
    exact VFact.mk (by rw [covC_not (g := fun x => decide (x.hi > (gce e.cs k).hi)) (fun x hx => .inr (.inr (of_decide_eq_true hx))) hvd (gi_mem hlt) v3]) trivial
  repeat (first | refine VIf.tt ?_ | refine VIf.ff ?_)
  refine VArith.ok (by first | omega | (simp only; omega)) (by first | omega | (simp only; omega)) ?_
  refine ⟨i + 1, ⟨hlt, fun j hj => ?_⟩, (by first | omega | (simp only; omega)), (Wk.mk' id (by repeat' constructor) (by repeat' constructor) (injOK_id _) rfl rfl rfl)⟩
  by_cases ej : j = i
  · subst ej; exact ⟨v1, of_decide_eq_false v2, of_decide_eq_false v3⟩
  · exact hok j (by omega)
theorem Kept30_fn (c e : ChartS) (a b d a2 b2 d2 : Value) (M : Mem) (h : Cha M c a b d) (h2 : Cha M e a2 b2 d2) (hF1 : frameC c) (hF2 : frameC e) : V.Fn Tryz.prog 43 [chV c a b d, chV e a2 b2 d2] M fun rs _ => rs = [.bool (keepsC c e)] := by
  have hC := fun M' (hM : M.le M') k hk => covered30_fn c e a b d a2 b2 d2 k M' (h.le hM) (h2.le hM) hF1 hF2 hk
  obtain ⟨⟨ad, ka, rfl⟩, ⟨bd, kb, rfl⟩, dd, kd, rfl⟩ := h.shape
  obtain ⟨⟨ad2, ka2, rfl⟩, ⟨bd2, kb2, rfl⟩, dd2, kd2, rfl⟩ := h2.shape
  have hl2 := hF2.1.2.2.2.2.1
  refine Fn.of_vc cxOK Tryz.func43 rfl rfl rfl ?_
  repeat (first | refine VIf.tt ?_ | refine VIf.ff ?_)
  refine VCode.loop cxOK (Nat × Mem) (fun (⟨k, M1⟩ : Nat × Mem) => ⟨[(2, .box 0 0), (3, .box 1 0), (5, .v (.int .i64 k))], [(0, some (.box 26 (chSV c (.slice ad c.cs.length ka) (.slice bd c.bs.length kb) (.slice dd c.ls.length kd)))), (1, some (.box 26 (chSV e (.slice ad2 e.cs.length ka2) (.slice bd2 e.bs.length kb2) (.slice dd2 e.ls.length kd2))))], 2, M1, 18, ⟨fun _ => none, none, fun _ => none⟩⟩)
    (fun (⟨k, M1⟩ : Nat × Mem) => (M.le M1 ∧ k ≤ e.cs.length) ∧ ∀ j, j < k → covC c e j = true) (fun (⟨k, _⟩ : Nat × Mem) => e.cs.length - k) (0, M) ⟨⟨Mem.le_refl _, Nat.zero_le _⟩, fun j hj => absurd hj (Nat.not_lt_zero _)⟩ (Wk.mk' id (by repeat' constructor) (by repeat' constructor) (injOK_id _) rfl rfl rfl) ?_
  rintro ⟨k, M1⟩ ⟨⟨hM1, hk⟩, hok⟩ m
  repeat (first | refine VIf.tt ?_ | refine VIf.ff ?_)
  refine VIf.mk (fun hlt => ?_) (fun hge => ?_)
  · have hlt : k < e.cs.length := lt_of_dec hlt
    repeat (first | refine VIf.tt ?_ | refine VIf.ff ?_)
    refine VFn.mk _ (hC M1 hM1 k hlt) ?_
    rintro rs M2 hM2 rfl
    repeat (first | refine VIf.tt ?_ | refine VIf.ff ?_)
    refine VIf.mk (fun hc => ?_) (fun hc => ?_)
    · repeat (first | refine VIf.tt ?_ | refine VIf.ff ?_)
      refine VFact.mk ?_ trivial
      have : keepsC c e = false := all_false hlt ((Bool.not_eq_true' _).mp hc)
      rw [this]
    · repeat (first | refine VIf.tt ?_ | refine VIf.ff ?_)
      refine VArith.ok (by first | omega | (simp only; omega)) (by first | omega | (simp only; omega)) ?_
      refine ⟨(k + 1, M2), ⟨⟨hM1.trans hM2, hlt⟩, fun j hj => ?_⟩, (by first | omega | (simp only; omega)), (Wk.mk' id (by repeat' constructor) (by repeat' constructor) (injOK_id _) rfl rfl rfl)⟩
      by_cases ej : j = k
      · subst ej; exact (Bool.not_eq_false' _).mp hc
      · exact hok j (by omega)
  · have : k = e.cs.length := by have := ge_of_dec hge; omega
    subst this
    repeat (first | refine VIf.tt ?_ | refine VIf.ff ?_)
    refine VFact.mk ?_ trivial
    have : keepsC c e = true := all_true hok
    rw [this]
theorem Keeps30_fn (c e : ChartS) (a b d a2 b2 d2 : Value) (M : Mem) (h : Cha M c a b d) (h2 : Cha M e a2 b2 d2) : V.Fn Tryz.prog 18 [chV c a b d, chV e a2 b2 d2] M fun rs _ => rs = if (validC c && validC e) = true then [.bool (keepsC c e), .int .i64 0] else [.bool false, .int .i64 1] := by
  have hv1 := Valid15_fn c a b d M h
  have hv2 := Valid15_fn e a2 b2 d2 M h2
  have hK := fun hF1 hF2 => Kept30_fn c e a b d a2 b2 d2 M h h2 hF1 hF2
  obtain ⟨⟨ad, ka, rfl⟩, ⟨bd, kb, rfl⟩, dd, kd, rfl⟩ := h.shape
  obtain ⟨⟨ad2, ka2, rfl⟩, ⟨bd2, kb2, rfl⟩, dd2, kd2, rfl⟩ := h2.shape
  refine Fn.of_vc cxOK Tryz.func18 rfl rfl rfl ?_
  repeat (first | refine VIf.tt ?_ | refine VIf.ff ?_)
  refine VFn.p hv1 ?_
  repeat (first | refine VIf.tt ?_ | refine VIf.ff ?_)
  refine VIf.mk (fun e1 => ?_) (fun e1 => ?_)
  · repeat (first | refine VIf.tt ?_ | refine VIf.ff ?_)
    exact VFact.mk (by rw [(Bool.not_eq_true' _).mp e1]; rfl) trivial
  have hV1 := (Bool.not_eq_false' _).mp e1
  repeat (first | refine VIf.tt ?_ | refine VIf.ff ?_)
  refine VFn.p hv2 ?_
  repeat (first | refine VIf.tt ?_ | refine VIf.ff ?_)
  refine VIf.mk (fun e2 => ?_) (fun e2 => ?_)
  · repeat (first | refine VIf.tt ?_ | refine VIf.ff ?_)
    exact VFact.mk (by rw [(Bool.not_eq_true' _).mp e2, Bool.and_false]; rfl) trivial
  have hV2 := (Bool.not_eq_false' _).mp e2
  repeat (first | refine VIf.tt ?_ | refine VIf.ff ?_)
  refine VFn.mk _ (hK (validC_frame hV1) (validC_frame hV2)) ?_
  rintro rs M1 hM1 rfl
  repeat (first | refine VIf.tt ?_ | refine VIf.ff ?_)
  refine VFact.mk ?_ trivial
  rw [hV1, hV2]; rfl
end Go.Proofs.YtegmjmdkhbibjaaGreat

/- A chart as a list of integers. -/
namespace Go.Proofs.YtegmjmdkhbibjaaGreat
open Go Go.V Go.RowKit
def hdrC (c : ChartS) : List Int := [c.ver, c.x, c.y, c.w, c.h, c.sz, (c.cs.length : Int)]
def b01 (b : Bool) : Int := if b = true then 1 else 0
def celI (c : CellS) : List Int := [c.lo, c.hi, c.dt, b01 c.vd]
def beaI (b : BeaS) : List Int := [b.id, b.x, b.y]
def ptI (p : Pt) : List Int := [p.1, p.2]
def lnI (l : LinS) : List Int := [l.id, (l.ps.length : Int)] ++ l.ps.flatMap ptI
def intsC (c : ChartS) : List Int := hdrC c ++ c.cs.flatMap celI ++ [(c.bs.length : Int)] ++ c.bs.flatMap beaI ++ [(c.ls.length : Int)] ++ c.ls.flatMap lnI
theorem flatI_succ {α : Type} (d : α) (f : α → List Int) (l : List α) {i : Nat} (hi : i < l.length) : (l.take (i + 1)).flatMap f = (l.take i).flatMap f ++ f (l.getD i d) := by
  rw [List.take_add_one, List.flatMap_append]
  simp [hi]
theorem flatI_len {α : Type} (f : α → List Int) (K : Nat) : ∀ (l : List α), (∀ x ∈ l, (f x).length ≤ K) → (l.flatMap f).length ≤ K * l.length
  | [], _ => by simp
  | x :: l, h => by
    rw [List.flatMap_cons, List.length_append, List.length_cons, Nat.mul_add]
    have := flatI_len f K l fun y hy => h y (List.mem_cons_of_mem _ hy)
    have := h x List.mem_cons_self
    omega
theorem flatI_take {α : Type} (f : α → List Int) (K N : Nat) (l : List α) (i : Nat) (h : ∀ x ∈ l, (f x).length ≤ K) (hl : l.length ≤ N) : ((l.take i).flatMap f).length ≤ K * N := by
  refine Nat.le_trans (flatI_len f K _ fun x hx => h x (List.mem_of_mem_take hx)) (Nat.mul_le_mul_left K ?_)
  rw [List.length_take]
  omega
/-- What Ints needs to know of sizes. -/
structure Sml (c : ChartS) : Prop where
  cs : c.cs.length ≤ 4000
  bs : c.bs.length ≤ 100
  ls : c.ls.length ≤ 50
  ps : ∀ l ∈ c.ls, l.ps.length ≤ 64
theorem valid_sml {c : ChartS} (h : validC c = true) : Sml c := by
  have hF := validC_frame h
  simp only [validC, Bool.and_eq_true, beasOK, linsOK, decide_eq_true_eq] at h
  obtain ⟨⟨_, _, hb⟩, hn, hl⟩ := h
  refine ⟨by have := hF.1; omega, hb, hl, fun l hm => ?_⟩
  obtain ⟨i, hi, e⟩ := List.getElem_of_mem hm
  have := (nmdB_iff.1 hn i hi).1
  have eg : gli c.ls i = l := by rw [← e]; simp [gli, hi]
  rw [eg] at this
  unfold pathOK at this
  simp only [Bool.and_eq_true, decide_eq_true_eq] at this
  exact this.1.1.2.2
theorem cel_len (c : ChartS) (i : Nat) (h : Sml c) : ((c.cs.take i).flatMap celI).length ≤ 4 * 4000 := flatI_take celI 4 4000 _ i (fun x _ => Nat.le_refl _) h.cs
theorem bea_len (c : ChartS) (i : Nat) (h : Sml c) : ((c.bs.take i).flatMap beaI).length ≤ 3 * 100 := flatI_take beaI 3 100 _ i (fun x _ => Nat.le_refl _) h.bs
theorem lin_len (c : ChartS) (i : Nat) (h : Sml c) : ((c.ls.take i).flatMap lnI).length ≤ 130 * 50 := flatI_take lnI 130 50 _ i (fun x hx => by
  have := h.ps x hx
  have h2 := flatI_len ptI 2 x.ps fun _ _ => Nat.le_refl _
  unfold lnI
  rw [List.length_append]
  show 2 + _ ≤ _
  omega) h.ls
theorem pt_len (l : LinS) (i : Nat) (h : l.ps.length ≤ 64) : ((l.ps.take i).flatMap ptI).length ≤ 2 * 64 := flatI_take ptI 2 64 _ i (fun x _ => Nat.le_refl _) h
theorem Wk.row1 {ys zs : List Int} (h : zs = ys) : zs.length = ys.length := by rw [h]
def i64L (l : List Int) : Prop := ∀ i ∈ l, i64r i
theorem i64L_app {a b : List Int} (ha : i64L a) (hb : i64L b) : i64L (a ++ b) := fun i hi => by
  rcases List.mem_append.1 hi with h | h
  · exact ha i h
  · exact hb i h
theorem i64L_nat {n : Nat} (h : n ≤ 9223372036854775807) : i64L [(n : Int)] := fun i hi => by
  rw [List.mem_singleton] at hi; subst hi; unfold i64r; omega
theorem ints_64 {M : Mem} {c : ChartS} {a b d : Value} (h : Cha M c a b d) (hs : Sml c) : i64L (intsC c) := by
  obtain ⟨r1, r2, r3, r4, r5, r6⟩ := h.r
  obtain ⟨_, _, _, _, hc⟩ := h.cs.get
  obtain ⟨_, _, _, _, hb⟩ := h.bs.get
  obtain ⟨_, _, _, _, hl⟩ := h.ls.get
  unfold intsC
  have q1 := hs.cs
  have q2 := hs.bs
  have q3 := hs.ls
  refine i64L_app (i64L_app (i64L_app (i64L_app (i64L_app ?_ ?_) (i64L_nat (by omega))) ?_) (i64L_nat (by omega))) ?_
  · intro i hi
    simp only [hdrC, List.mem_cons, List.not_mem_nil, or_false] at hi
    rcases hi with rfl | rfl | rfl | rfl | rfl | rfl | rfl <;> first | assumption | (unfold i64r; omega)
  · intro i hi
    obtain ⟨x, hx, hi⟩ := List.mem_flatMap.1 hi
    obtain ⟨j, hj, e⟩ := List.getElem_of_mem hx
    obtain ⟨_, _, ⟨k1, k2, k3⟩, _⟩ := hc M (Mem.le_refl _) j hj
    have eg : gce c.cs j = x := by rw [← e]; simp [gce, hj]
    rw [eg] at k1 k2 k3
    simp only [celI, List.mem_cons, List.not_mem_nil, or_false] at hi
    rcases hi with rfl | rfl | rfl | rfl
    · exact k1
    · exact k2
    · exact k3
    · unfold b01 i64r; split <;> omega
  · intro i hi
    obtain ⟨x, hx, hi⟩ := List.mem_flatMap.1 hi
    obtain ⟨j, hj, e⟩ := List.getElem_of_mem hx
    obtain ⟨_, _, ⟨k1, k2, k3⟩, _⟩ := hb M (Mem.le_refl _) j hj
    have eg : gbe c.bs j = x := by rw [← e]; simp [gbe, hj]
    rw [eg] at k1 k2 k3
    simp only [beaI, List.mem_cons, List.not_mem_nil, or_false] at hi
    rcases hi with rfl | rfl | rfl
    · exact k1
    · exact k2
    · exact k3
  · intro i hi
    obtain ⟨x, hx, hi⟩ := List.mem_flatMap.1 hi
    obtain ⟨j, hj, e⟩ := List.getElem_of_mem hx
    obtain ⟨_, _, _, k1, _, k2, _⟩ := hl M (Mem.le_refl _) j hj
    have eg : gli c.ls j = x := by rw [← e]; simp [gli, hj]
    rw [eg] at k1 k2
    have hps := hs.ps x hx
    unfold lnI at hi
    rcases List.mem_append.1 hi with hi | hi
    · simp only [List.mem_cons, List.not_mem_nil, or_false] at hi
      rcases hi with rfl | rfl
      · exact k1
      · unfold i64r; omega
    · obtain ⟨p, hp, hi⟩ := List.mem_flatMap.1 hi
      obtain ⟨j, hj, e⟩ := List.getElem_of_mem hp
      have := k2 j hj
      have eg : gp x.ps j = p := by rw [← e]; simp [gp, hj]
      rw [eg] at this
      simp only [ptI, List.mem_cons, List.not_mem_nil, or_false] at hi
      rcases hi with rfl | rfl
      · exact this.1
      · exact this.2
end Go.Proofs.YtegmjmdkhbibjaaGreat

/- The walk of Ints, Same, Few. -/
namespace Go.Proofs.YtegmjmdkhbibjaaGreat
open Go Go.V Go.RowKit
def intsC1 (c : ChartS) (i : Nat) : List Int := hdrC c ++ (c.cs.take i).flatMap celI
def intsC2 (c : ChartS) (i : Nat) : List Int := hdrC c ++ c.cs.flatMap celI ++ [(c.bs.length : Int)] ++ (c.bs.take i).flatMap beaI
def intsC3 (c : ChartS) (i : Nat) : List Int := hdrC c ++ c.cs.flatMap celI ++ [(c.bs.length : Int)] ++ c.bs.flatMap beaI ++ [(c.ls.length : Int)] ++ (c.ls.take i).flatMap lnI
theorem app_i64 (a b : List Int) : (a ++ b).map (Value.int .i64) = a.map (Value.int .i64) ++ b.map (Value.int .i64) := List.map_append
set_option maxRecDepth 20000 in
set_option maxHeartbeats 4000000 in
theorem Ints15_fn (c : ChartS) (a b d : Value) (M : Mem) (h : Cha M c a b d) (hs : Sml c) : V.Fn Tryz.prog 48 [chV c a b d] M fun rs M' => ∃ u, rs = [u] ∧ IntsV M' u (intsC c) := by
  have h64 := ints_64 h hs
  have q1 := hs.cs
  have q2 := hs.bs
  have q3 := hs.ls
  obtain ⟨ad, ka, ea, hlm, hrd⟩ := h.cs.get
  obtain ⟨bd, kb, eb, hlb, hrb⟩ := h.bs.get
  obtain ⟨dd, kd, ed, hld, hrl⟩ := h.ls.get
  subst ea; subst eb; subst ed
  have C1 := fun i => cel_len c i hs
  have C2 := fun i => bea_len c i hs
  have C3 := fun i => lin_len c i hs
  have T1 : c.cs.take c.cs.length = c.cs := List.take_length
  have T2 : c.bs.take c.bs.length = c.bs := List.take_length
  have T3 : c.ls.take c.ls.length = c.ls := List.take_length
  have D1 := C1 c.cs.length
  have D2 := C2 c.bs.length
  rw [T1] at D1
  rw [T2] at D2
  refine Fn.of_vc cxOK Tryz.func48 rfl rfl rfl ?_
  repeat (first | refine VIf.tt ?_ | refine VIf.ff ?_)
  refine VCode.loop cxOK (Nat × List Int) (fun (⟨i, ys⟩ : Nat × List Int) => ⟨[(1, .box 0 0), (3, .row 1), (4, .v (.int .i64 i))], [(0, some (.box 26 (chSV c (.slice ad c.cs.length ka) (.slice bd c.bs.length kb) (.slice dd c.ls.length kd)))), (1, some (.row 3 1 ys.length (ys.map (Value.int .i64))))], 2, M, 162, ⟨fun _ => none, none, fun _ => none⟩⟩)
    (fun (⟨i, ys⟩ : Nat × List Int) => i ≤ c.cs.length ∧ ys = intsC1 c i) (fun (⟨i, _⟩ : Nat × List Int) => c.cs.length - i) (0, hdrC c) ⟨Nat.zero_le _, by simp [intsC1]⟩ (Wk.mk' id (by repeat' constructor) (by repeat' constructor) (injOK_id _) rfl rfl rfl) ?_
  rintro ⟨i, ys⟩ ⟨hi, hys⟩ m
  have hyl : ys.length ≤ 20000 := by have := C1 i; rw [hys]; unfold intsC1; rw [List.length_append]; show 7 + _ ≤ _; omega
  repeat (first | refine VIf.tt ?_ | refine VIf.ff ?_)
  refine VIf.mk (fun hlt => ?_) (fun hge => ?_)
  · have hlt : i < c.cs.length := lt_of_dec hlt
    obtain ⟨a1, e1, _, p1⟩ := hrd M (Mem.le_refl _) i hlt
    have hs : intsC1 c (i + 1) = ys ++ celI (gce c.cs i) := by rw [hys]; unfold intsC1; rw [flatI_succ cell0 celI c.cs hlt, List.append_assoc]; rfl
    have hb : (ys.length + 4) * 8 ≤ 140737488355328 := by omega
    repeat (first | refine VIf.tt ?_ | refine VIf.ff ?_)
    refine VIdx.mk a1 i e1 rfl hlt ?_
    repeat (first | refine VIf.tt ?_ | refine VIf.ff ?_)
    refine VRead.mk (.bool (gce c.cs i).vd) (p1 3 _ rfl) ?_
    repeat (first | refine VIf.tt ?_ | refine VIf.ff ?_)
    refine VIf.mk (fun hvd => ?_) (fun hvd => ?_)
    · have hvd : (gce c.cs i).vd = true := hvd
      repeat (first | refine VIf.tt ?_ | refine VIf.ff ?_)
      refine VDraw.go (by kernel_rfl) ?_
      repeat (first | refine VIf.tt ?_ | refine VIf.ff ?_)
      refine VIdx.mk a1 i e1 rfl hlt ?_
      repeat (first | refine VIf.tt ?_ | refine VIf.ff ?_)
      refine VRead.mk (.int .i64 (gce c.cs i).lo) (p1 0 _ rfl) ?_
      repeat (first | refine VIf.tt ?_ | refine VIf.ff ?_)
      refine VIdx.mk a1 i e1 rfl hlt ?_
      repeat (first | refine VIf.tt ?_ | refine VIf.ff ?_)
      refine VRead.mk (.int .i64 (gce c.cs i).hi) (p1 1 _ rfl) ?_
      repeat (first | refine VIf.tt ?_ | refine VIf.ff ?_)
      refine VIdx.mk a1 i e1 rfl hlt ?_
      repeat (first | refine VIf.tt ?_ | refine VIf.ff ?_)
      refine VRead.mk (.int .i64 (gce c.cs i).dt) (p1 2 _ rfl) ?_
      repeat (first | refine VIf.tt ?_ | refine VIf.ff ?_)
      refine VFact.mk hb ?_
      repeat (first | refine VIf.tt ?_ | refine VIf.ff ?_)
      refine VArith.ok (by first | omega | (simp only; omega)) (by first | omega | (simp only; omega)) ?_
      refine ⟨(i + 1, ys ++ celI (gce c.cs i)), ⟨hlt, hs.symm⟩, (by first | omega | (simp only; omega)), Wk.mk' (fun i => if i = 1 then 3 else i) (by repeat' constructor) ⟨⟨rfl, by repeat' constructor⟩, ⟨rfl, ⟨rfl, rfl, ?_, ?_⟩⟩, trivial⟩ (by simp [injOK]) rfl rfl rfl⟩
      · rw [List.length_append]; rfl
      · rw [app_i64]; unfold celI; rw [hvd]; rfl
    · have hvd : (gce c.cs i).vd = false := hvd
      repeat (first | refine VIf.tt ?_ | refine VIf.ff ?_)
      refine VDraw.go (by kernel_rfl) ?_
      repeat (first | refine VIf.tt ?_ | refine VIf.ff ?_)
      refine VIdx.mk a1 i e1 rfl hlt ?_
      repeat (first | refine VIf.tt ?_ | refine VIf.ff ?_)
      refine VRead.mk (.int .i64 (gce c.cs i).lo) (p1 0 _ rfl) ?_
      repeat (first | refine VIf.tt ?_ | refine VIf.ff ?_)
      refine VIdx.mk a1 i e1 rfl hlt ?_
      repeat (first | refine VIf.tt ?_ | refine VIf.ff ?_)
      refine VRead.mk (.int .i64 (gce c.cs i).hi) (p1 1 _ rfl) ?_
      repeat (first | refine VIf.tt ?_ | refine VIf.ff ?_)
      refine VIdx.mk a1 i e1 rfl hlt ?_
      repeat (first | refine VIf.tt ?_ | refine VIf.ff ?_)
      refine VRead.mk (.int .i64 (gce c.cs i).dt) (p1 2 _ rfl) ?_
      repeat (first | refine VIf.tt ?_ | refine VIf.ff ?_)
      refine VFact.mk hb ?_
      repeat (first | refine VIf.tt ?_ | refine VIf.ff ?_)
      refine VArith.ok (by first | omega | (simp only; omega)) (by first | omega | (simp only; omega)) ?_
      refine ⟨(i + 1, ys ++ celI (gce c.cs i)), ⟨hlt, hs.symm⟩, (by first | omega | (simp only; omega)), Wk.mk' (fun i => if i = 1 then 3 else i) (by repeat' constructor) ⟨⟨rfl, by repeat' constructor⟩, ⟨rfl, ⟨rfl, rfl, ?_, ?_⟩⟩, trivial⟩ (by simp [injOK]) rfl rfl rfl⟩
      · rw [List.length_append]; rfl
      · rw [app_i64]; unfold celI; rw [hvd]; rfl
  have : i = c.cs.length := by have := ge_of_dec hge; omega
  subst this
  unfold intsC1 at hys
  rw [T1] at hys
  have hb0 : (ys.length + 1) * 8 ≤ 140737488355328 := by omega
  repeat (first | refine VIf.tt ?_ | refine VIf.ff ?_)
  refine VFact.mk hb0 ?_
  repeat (first | refine VIf.tt ?_ | refine VIf.ff ?_)
  refine VCode.loop cxOK (Nat × List Int) (fun (⟨i, ys⟩ : Nat × List Int) => ⟨[(1, .box 0 0), (3, .row 3), (6, .v (.int .i64 i))], [(0, some (.box 26 (chSV c (.slice ad c.cs.length ka) (.slice bd c.bs.length kb) (.slice dd c.ls.length kd)))), (3, some (.row 3 1 ys.length (ys.map (Value.int .i64))))], 4, M, 162, ⟨fun _ => none, none, fun _ => none⟩⟩)
    (fun (⟨i, ys⟩ : Nat × List Int) => i ≤ c.bs.length ∧ ys = intsC2 c i) (fun (⟨i, _⟩ : Nat × List Int) => c.bs.length - i) (0, ys ++ [(c.bs.length : Int)]) ⟨Nat.zero_le _, by rw [hys]; simp [intsC2]⟩ ?_ ?_
  · refine Wk.mk' id (by repeat' constructor) ⟨⟨rfl, by repeat' constructor⟩, ⟨rfl, ⟨rfl, rfl, ?_, ?_⟩⟩, trivial⟩ (injOK_id _) rfl rfl rfl
    · rw [List.length_append]; rfl
    · rw [app_i64]; rfl
  rintro ⟨i, ys⟩ ⟨hi, hys⟩ m
  have hyl : ys.length ≤ 20000 := by have := C2 i; rw [hys]; unfold intsC2; simp only [List.length_append]; show 7 + _ + 1 + _ ≤ _; omega
  repeat (first | refine VIf.tt ?_ | refine VIf.ff ?_)
  refine VIf.mk (fun hlt => ?_) (fun hge => ?_)
  · have hlt : i < c.bs.length := lt_of_dec hlt
    obtain ⟨a1, e1, _, p1⟩ := hrb M (Mem.le_refl _) i hlt
    have hs : intsC2 c (i + 1) = ys ++ beaI (gbe c.bs i) := by rw [hys]; unfold intsC2; rw [flatI_succ bea0 beaI c.bs hlt]; simp only [List.append_assoc]; rfl
    have hb : (ys.length + 3) * 8 ≤ 140737488355328 := by omega
    repeat (first | refine VIf.tt ?_ | refine VIf.ff ?_)
    refine VDraw.go (by kernel_rfl) ?_
    repeat (first | refine VIf.tt ?_ | refine VIf.ff ?_)
    refine VIdx.mk a1 i e1 rfl hlt ?_
    repeat (first | refine VIf.tt ?_ | refine VIf.ff ?_)
    refine VRead.mk (.int .i64 (gbe c.bs i).id) (p1 0 _ rfl) ?_
    repeat (first | refine VIf.tt ?_ | refine VIf.ff ?_)
    refine VIdx.mk a1 i e1 rfl hlt ?_
    repeat (first | refine VIf.tt ?_ | refine VIf.ff ?_)
    refine VRead.mk (.int .i64 (gbe c.bs i).x) (p1 1 _ rfl) ?_
    repeat (first | refine VIf.tt ?_ | refine VIf.ff ?_)
    refine VIdx.mk a1 i e1 rfl hlt ?_
    repeat (first | refine VIf.tt ?_ | refine VIf.ff ?_)
    refine VRead.mk (.int .i64 (gbe c.bs i).y) (p1 2 _ rfl) ?_
    repeat (first | refine VIf.tt ?_ | refine VIf.ff ?_)
    refine VFact.mk hb ?_
    repeat (first | refine VIf.tt ?_ | refine VIf.ff ?_)
    refine VArith.ok (by first | omega | (simp only; omega)) (by first | omega | (simp only; omega)) ?_
    refine ⟨(i + 1, ys ++ beaI (gbe c.bs i)), ⟨hlt, hs.symm⟩, (by first | omega | (simp only; omega)), Wk.mk' (fun i => if i = 3 then 5 else i) (by repeat' constructor) ⟨⟨rfl, by repeat' constructor⟩, ⟨rfl, ⟨rfl, rfl, ?_, ?_⟩⟩, trivial⟩ (by simp [injOK]) rfl rfl rfl⟩
    · rw [List.length_append]; rfl
    · rw [app_i64]; rfl
  have : i = c.bs.length := by have := ge_of_dec hge; omega
  subst this
  unfold intsC2 at hys
  rw [T2] at hys
  have hb0 : (ys.length + 1) * 8 ≤ 140737488355328 := by omega
  repeat (first | refine VIf.tt ?_ | refine VIf.ff ?_)
  refine VFact.mk hb0 ?_
  repeat (first | refine VIf.tt ?_ | refine VIf.ff ?_)
  refine VCode.loop cxOK (Nat × List Int) (fun (⟨i, ys⟩ : Nat × List Int) => ⟨[(1, .box 0 0), (3, .row 5), (7, .v (.int .i64 i))], [(0, some (.box 26 (chSV c (.slice ad c.cs.length ka) (.slice bd c.bs.length kb) (.slice dd c.ls.length kd)))), (5, some (.row 3 1 ys.length (ys.map (Value.int .i64))))], 6, M, 162, ⟨fun _ => none, none, fun _ => none⟩⟩)
    (fun (⟨i, ys⟩ : Nat × List Int) => i ≤ c.ls.length ∧ ys = intsC3 c i) (fun (⟨i, _⟩ : Nat × List Int) => c.ls.length - i) (0, ys ++ [(c.ls.length : Int)]) ⟨Nat.zero_le _, by rw [hys]; simp [intsC3]⟩ ?_ ?_
  · refine Wk.mk' id (by repeat' constructor) ⟨⟨rfl, by repeat' constructor⟩, ⟨rfl, ⟨rfl, rfl, ?_, ?_⟩⟩, trivial⟩ (injOK_id _) rfl rfl rfl
    · rw [List.length_append]; rfl
    · rw [app_i64]; rfl
  rintro ⟨i, ys⟩ ⟨hi, hys⟩ m
  have hyl : ys.length ≤ 30000 := by have := C3 i; rw [hys]; unfold intsC3; simp only [List.length_append]; show 7 + _ + 1 + _ + 1 + _ ≤ _; omega
  repeat (first | refine VIf.tt ?_ | refine VIf.ff ?_)
  refine VIf.mk (fun hlt => ?_) (fun hge => ?_)
  rotate_left
  · have : i = c.ls.length := by have := ge_of_dec hge; omega
    subst this
    have e : ys = intsC c := by rw [hys]; unfold intsC3 intsC; rw [T3]
    repeat (first | refine VIf.tt ?_ | refine VIf.ff ?_)
    refine VFz.mk fun x B M1 hM1 hx => ?_
    repeat (first | refine VIf.tt ?_ | refine VIf.ff ?_)
    refine VFact.mk (show ∃ u, _ = _ ∧ _ from ⟨x, rfl, ?_⟩) trivial
    rw [← e]
    exact IntsV.of hx (by rw [e]; exact h64)
  have hlt : i < c.ls.length := lt_of_dec hlt
  obtain ⟨a1, w, e1, _, hpt, _, p1⟩ := hrl M (Mem.le_refl _) i hlt
  have hpl : (gli c.ls i).ps.length ≤ 64 := hs.ps _ (by
    have : gli c.ls i = c.ls[i] := by simp [gli, hlt]
    rw [this]; exact List.getElem_mem hlt)
  obtain ⟨wa, wc, rfl⟩ := hpt.shape
  obtain ⟨_, hpm, hpr⟩ := hpt.cellsOf
  have P3 := fun k => pt_len (gli c.ls i) k hpl
  have hs3 : intsC3 c (i + 1) = ys ++ lnI (gli c.ls i) := by rw [hys]; unfold intsC3; rw [flatI_succ lin0 lnI c.ls hlt]; simp only [List.append_assoc]; rfl
  have hb : (ys.length + 2) * 8 ≤ 140737488355328 := by omega
  repeat (first | refine VIf.tt ?_ | refine VIf.ff ?_)
  refine VDraw.go (by kernel_rfl) ?_
  repeat (first | refine VIf.tt ?_ | refine VIf.ff ?_)
  refine VIdx.mk a1 i e1 rfl hlt ?_
  repeat (first | refine VIf.tt ?_ | refine VIf.ff ?_)
  refine VRead.mk (.int .i64 (gli c.ls i).id) (p1 0 _ rfl) ?_
  repeat (first | refine VIf.tt ?_ | refine VIf.ff ?_)
  refine VIdx.mk a1 i e1 rfl hlt ?_
  repeat (first | refine VIf.tt ?_ | refine VIf.ff ?_)
  refine VRead.mk (.slice wa (gli c.ls i).ps.length wc) (p1 1 _ rfl) ?_
  repeat (first | refine VIf.tt ?_ | refine VIf.ff ?_)
  refine VFact.mk hb ?_
  repeat (first | refine VIf.tt ?_ | refine VIf.ff ?_)
  refine VCode.loop cxOK (Nat × List Int) (fun (⟨k, zs⟩ : Nat × List Int) => ⟨[(1, .box 0 0), (3, .row 7), (7, .v (.int .i64 i)), (8, .v (.int .i64 k))], [(0, some (.box 26 (chSV c (.slice ad c.cs.length ka) (.slice bd c.bs.length kb) (.slice dd c.ls.length kd)))), (7, some (.row 3 1 zs.length (zs.map (Value.int .i64))))], 8, M, 162, ⟨fun _ => none, none, fun _ => none⟩⟩)
    (fun (⟨k, zs⟩ : Nat × List Int) => k ≤ (gli c.ls i).ps.length ∧ zs = ys ++ [(gli c.ls i).id, ((gli c.ls i).ps.length : Int)] ++ ((gli c.ls i).ps.take k).flatMap ptI) (fun (⟨k, _⟩ : Nat × List Int) => (gli c.ls i).ps.length - k) (0, ys ++ [(gli c.ls i).id, ((gli c.ls i).ps.length : Int)]) ⟨Nat.zero_le _, by simp⟩ ?_ ?_
  · refine Wk.mk' id (by repeat' constructor) ⟨⟨rfl, by repeat' constructor⟩, ⟨rfl, ⟨rfl, rfl, ?_, ?_⟩⟩, trivial⟩ (injOK_id _) rfl rfl rfl
    · rw [List.length_append]; rfl
    · rw [app_i64]; rfl
  rintro ⟨k, zs⟩ ⟨hk, hzs⟩ mm
  have hzl : zs.length ≤ 40000 := by have := P3 k; rw [hzs]; simp only [List.length_append]; show _ + 2 + _ ≤ _; omega
  repeat (first | refine VIf.tt ?_ | refine VIf.ff ?_)
  refine VIdx.mk a1 i e1 rfl hlt ?_
  repeat (first | refine VIf.tt ?_ | refine VIf.ff ?_)
  refine VRead.mk (.slice wa (gli c.ls i).ps.length wc) (p1 1 _ rfl) ?_
  repeat (first | refine VIf.tt ?_ | refine VIf.ff ?_)
  refine VIf.mk (fun hlk => ?_) (fun hgk => ?_)
  · have hlk : k < (gli c.ls i).ps.length := lt_of_dec hlk
    obtain ⟨a2, e2, p2⟩ := hpr M (Mem.le_refl _) k hlk
    have hb : (zs.length + 2) * 8 ≤ 140737488355328 := by omega
    repeat (first | refine VIf.tt ?_ | refine VIf.ff ?_)
    refine VDraw.go (by kernel_rfl) ?_
    repeat (first | refine VIf.tt ?_ | refine VIf.ff ?_)
    refine VIdx.mk a1 i e1 rfl hlt ?_
    repeat (first | refine VIf.tt ?_ | refine VIf.ff ?_)
    refine VRead.mk (.slice wa (gli c.ls i).ps.length wc) (p1 1 _ rfl) ?_
    repeat (first | refine VIf.tt ?_ | refine VIf.ff ?_)
    refine VIdx.mk a2 k e2 rfl hlk ?_
    repeat (first | refine VIf.tt ?_ | refine VIf.ff ?_)
    refine VRead.mk (.int .i64 (gp (gli c.ls i).ps k).1) (p2 0 _ rfl) ?_
    repeat (first | refine VIf.tt ?_ | refine VIf.ff ?_)
    refine VIdx.mk a1 i e1 rfl hlt ?_
    repeat (first | refine VIf.tt ?_ | refine VIf.ff ?_)
    refine VRead.mk (.slice wa (gli c.ls i).ps.length wc) (p1 1 _ rfl) ?_
    repeat (first | refine VIf.tt ?_ | refine VIf.ff ?_)
    refine VIdx.mk a2 k e2 rfl hlk ?_
    repeat (first | refine VIf.tt ?_ | refine VIf.ff ?_)
    refine VRead.mk (.int .i64 (gp (gli c.ls i).ps k).2) (p2 1 _ rfl) ?_
    repeat (first | refine VIf.tt ?_ | refine VIf.ff ?_)
    refine VFact.mk hb ?_
    repeat (first | refine VIf.tt ?_ | refine VIf.ff ?_)
    refine VArith.ok (by first | omega | (simp only; omega)) (by first | omega | (simp only; omega)) ?_
    refine ⟨(k + 1, zs ++ ptI (gp (gli c.ls i).ps k)), ⟨hlk, ?_⟩, (by first | omega | (simp only; omega)), Wk.mk' (fun i => if i = 7 then 9 else i) (by repeat' constructor) ⟨⟨rfl, by repeat' constructor⟩, ⟨rfl, ⟨rfl, rfl, ?_, ?_⟩⟩, trivial⟩ (by simp [injOK]) rfl rfl rfl⟩
    · rw [hzs, flatI_succ (0, 0) ptI _ hlk, ← List.append_assoc]; rfl
    · rw [List.length_append]; rfl
    · rw [app_i64]; rfl
  · have : k = (gli c.ls i).ps.length := by have := ge_of_dec hgk; omega
    subst this
    rw [List.take_length] at hzs
    repeat (first | refine VIf.tt ?_ | refine VIf.ff ?_)
    refine VArith.ok (by first | omega | (simp only; omega)) (by first | omega | (simp only; omega)) ?_
    refine ⟨(i + 1, zs), ⟨hlt, ?_⟩, (by first | omega | (simp only; omega)), Wk.mk' (fun i => if i = 5 then 7 else i) (by repeat' constructor) (by repeat' constructor) (by simp [injOK]) rfl rfl rfl⟩
    rw [hs3, hzs]; unfold lnI; simp only [List.append_assoc]
end Go.Proofs.YtegmjmdkhbibjaaGreat
