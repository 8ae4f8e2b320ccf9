/- RayMatchesReference: all functions of package ray answer as the reference implementation does. No conditions beyond the statement's own. -/
import Derived.Test.YtlppfikkgcfaoaaGreatHa8
set_option linter.unusedVariables false
set_option linter.unusedSimpArgs false
/- Contracts of the reference implementation of rays: what is rounded. -/
namespace Go.Proofs.YtlppfikkgcfaoaaGreat
open Go Go.V Go.RowKit
theorem floor09_fn (c d : Int) (M : Mem) (hd : 0 < d ∧ d ≤ 1000000) (hc : -1000000000000 ≤ c ∧ c ≤ 1000000000000) : FnP Tryz.prog 69 [.int .i64 c, .int .i64 d] M [.int .i64 (c / d)] := by
  obtain ⟨s1, s2⟩ := div_spec (a := c) hd.1
  have hb := tdiv_bd (b := d) hd.1 hc.1 hc.2
  have e : c.tdiv d * d = c - c.tmod d := by
    have := Int.mul_tdiv_add_tmod c d
    rw [Int.mul_comm] at this; omega
  have ht : -d < c.tmod d ∧ c.tmod d < d := by
    have h1 := Int.tmod_lt_of_pos c hd.1
    have h2 := Int.lt_tmod_of_pos c hd.1
    exact ⟨h2, h1⟩
  refine Fn.of_vc cxOK Tryz.func69 rfl rfl rfl ?_
  repeat (first | refine VIf.tt ?_ | refine VIf.ff ?_)
  refine VDiv.mk (by omega) ?_
  repeat (first | refine VIf.tt ?_ | refine VIf.ff ?_)
  refine VArith.ok (by omega) (by omega) ?_
  repeat (first | refine VIf.tt ?_ | refine VIf.ff ?_)
  refine VArith.ok (by omega) (by omega) ?_
  repeat (first | refine VIf.tt ?_ | refine VIf.ff ?_)
  refine VIf.mk (fun h => ?_) (fun h => ?_)
  · have h := of_decide_eq_true h
    repeat (first | refine VIf.tt ?_ | refine VIf.ff ?_)
    refine VArith.ok (by omega) (by omega) ?_
    repeat (first | refine VIf.tt ?_ | refine VIf.ff ?_)
    refine VFact.mk ⟨?_, rfl⟩ trivial
    exact congrArg (fun n => [Value.int .i64 n]) (s1 (by omega)).1
  · have h := of_decide_eq_false h
    repeat (first | refine VIf.tt ?_ | refine VIf.ff ?_)
    refine VFact.mk ⟨?_, rfl⟩ trivial
    exact congrArg (fun n => [Value.int .i64 n]) (s2 (by omega)).1
theorem ediv_bd {c d : Int} (B : Int) (hd : 0 < d) (h1 : -B ≤ c) (h2 : c ≤ B) (hB : 0 ≤ B) : -B ≤ c / d ∧ c / d ≤ B := by
  have h := Int.mul_le_mul_of_nonneg_left (show 1 ≤ d by omega) hB
  refine ⟨(Int.le_ediv_iff_mul_le hd).2 ?_, Int.ediv_le_of_le_mul hd ?_⟩
  · rw [Int.neg_mul]; omega
  · omega
theorem two_get (x y : Value) {j : Nat} {v : Value} (h : [x, y][j]? = some v) : [x, y][j]? = some v := h
set_option maxRecDepth 20000 in
set_option maxHeartbeats 2000000 in
theorem Rounded09_row (k : Nat) (n d : Int) (M : Mem) (hk : k < 1000) (hn : 0 ≤ n ∧ n ≤ 100000) (hd : 0 < d ∧ d ≤ 1000000) : FnRow Tryz.prog 52 [.int .i64 k, .int .i64 n, .int .i64 d] M 23 2 fun m xs _ => m = 4 ∧ xs = cellsP (rndP (rayP k) n d) := by
  have hR := ray_R k
  unfold isR at hR
  have e1 := mul_bd (a := (rayP k).1) (b := n) 1000 100000 (by omega) (by omega) (by omega) (by omega) (by omega) (by omega)
  have e2 := mul_bd (a := (rayP k).2) (b := n) 1000 100000 (by omega) (by omega) (by omega) (by omega) (by omega) (by omega)
  have e3 : -(rayP k).1 * n = -((rayP k).1 * n) := Int.neg_mul _ _
  have e4 : -(rayP k).2 * n = -((rayP k).2 * n) := Int.neg_mul _ _
  have e5 := ediv_bd (c := -(rayP k).1 * n) (d := d) 100000000 hd.1 (by omega) (by omega) (by omega)
  have e6 := ediv_bd (c := -(rayP k).2 * n) (d := d) 100000000 hd.1 (by omega) (by omega) (by omega)
  refine FnRow.of_vc cxIOK Tryz.func52 rfl rfl rfl ?_
  repeat (first | refine VIf.tt ?_ | refine VIf.ff ?_)
  refine VOwn.frz ?_
  repeat (first | refine VIf.tt ?_ | refine VIf.ff ?_)
  refine VFn.mk _ (At09_fn k M hk) ?_
  rintro rs M1 hM1 rfl
  repeat (first | refine VIf.tt ?_ | refine VIf.ff ?_)
  refine VDraw.go (by kernel_rfl) ?_
  repeat (first | refine VIf.tt ?_ | refine VIf.ff ?_)
  refine VArith.ok (by first | omega | (simp only; omega)) (by first | omega | (simp only; omega)) ?_
  repeat (first | refine VIf.tt ?_ | refine VIf.ff ?_)
  refine VArith.ok (by first | omega | (simp only; omega)) (by first | omega | (simp only; omega)) ?_
  repeat (first | refine VIf.tt ?_ | refine VIf.ff ?_)
  refine VArith.ok (by first | omega | (simp only; omega)) (by first | omega | (simp only; omega)) ?_
  repeat (first | refine VIf.tt ?_ | refine VIf.ff ?_)
  refine VFn.p (floor09_fn ((rayP k).1 * n) d M1 hd (by omega)) ?_
  repeat (first | refine VIf.tt ?_ | refine VIf.ff ?_)
  refine VOwn.frz ?_
  repeat (first | refine VIf.tt ?_ | refine VIf.ff ?_)
  refine VFn.p (floor09_fn (-(rayP k).1 * n) d M1 hd (by omega)) ?_
  repeat (first | refine VIf.tt ?_ | refine VIf.ff ?_)
  refine VArith.ok (by show _ ≤ -(-(rayP k).1 * n / d); omega) (by show -(-(rayP k).1 * n / d) ≤ _; omega) ?_
  repeat (first | refine VIf.tt ?_ | refine VIf.ff ?_)
  refine VDraw.go (by kernel_rfl) ?_
  repeat (first | refine VIf.tt ?_ | refine VIf.ff ?_)
  refine VArith.ok (by first | omega | (simp only; omega)) (by first | omega | (simp only; omega)) ?_
  repeat (first | refine VIf.tt ?_ | refine VIf.ff ?_)
  refine VArith.ok (by first | omega | (simp only; omega)) (by first | omega | (simp only; omega)) ?_
  repeat (first | refine VIf.tt ?_ | refine VIf.ff ?_)
  refine VArith.ok (by first | omega | (simp only; omega)) (by first | omega | (simp only; omega)) ?_
  repeat (first | refine VIf.tt ?_ | refine VIf.ff ?_)
  refine VFn.p (floor09_fn ((rayP k).2 * n) d M1 hd (by omega)) ?_
  repeat (first | refine VIf.tt ?_ | refine VIf.ff ?_)
  refine VOwn.frz ?_
  repeat (first | refine VIf.tt ?_ | refine VIf.ff ?_)
  refine VFn.p (floor09_fn (-(rayP k).2 * n) d M1 hd (by omega)) ?_
  repeat (first | refine VIf.tt ?_ | refine VIf.ff ?_)
  refine VArith.ok (by show _ ≤ -(-(rayP k).2 * n / d); omega) (by show -(-(rayP k).2 * n / d) ≤ _; omega) ?_
  repeat (first | refine VIf.tt ?_ | refine VIf.ff ?_)
  refine VDraw.go (by kernel_rfl) ?_
  repeat (first | refine VIf.tt ?_ | refine VIf.ff ?_)
  refine VIdxR.mk 0 rfl (by decide) ?_
  repeat (first | refine VIf.tt ?_ | refine VIf.ff ?_)
  refine VCells.mk [_] rfl (one_get rfl) ⟨_, rfl, ?_⟩
  repeat (first | refine VIf.tt ?_ | refine VIf.ff ?_)
  refine VIdxR.mk 0 rfl (by decide) ?_
  repeat (first | refine VIf.tt ?_ | refine VIf.ff ?_)
  refine VCells.mk [_] rfl (one_get rfl) ⟨_, rfl, ?_⟩
  repeat (first | refine VIf.tt ?_ | refine VIf.ff ?_)
  refine VIdxR.mk 0 rfl (by decide) ?_
  repeat (first | refine VIf.tt ?_ | refine VIf.ff ?_)
  refine VCells.mk [_] rfl (one_get rfl) ⟨_, rfl, ?_⟩
  repeat (first | refine VIf.tt ?_ | refine VIf.ff ?_)
  refine VIdxR.mk 1 rfl (by decide) ?_
  repeat (first | refine VIf.tt ?_ | refine VIf.ff ?_)
  refine VCells.mk [_] rfl (one_get rfl) ⟨_, rfl, ?_⟩
  repeat (first | refine VIf.tt ?_ | refine VIf.ff ?_)
  refine VIdxR.mk 1 rfl (by decide) ?_
  repeat (first | refine VIf.tt ?_ | refine VIf.ff ?_)
  refine VCells.mk [_] rfl (one_get rfl) ⟨_, rfl, ?_⟩
  repeat (first | refine VIf.tt ?_ | refine VIf.ff ?_)
  refine VIdxR.mk 0 rfl (by decide) ?_
  repeat (first | refine VIf.tt ?_ | refine VIf.ff ?_)
  refine VCells.mk [_] rfl (one_get rfl) ⟨_, rfl, ?_⟩
  repeat (first | refine VIf.tt ?_ | refine VIf.ff ?_)
  refine VIdxR.mk 1 rfl (by decide) ?_
  repeat (first | refine VIf.tt ?_ | refine VIf.ff ?_)
  refine VCells.mk [_] rfl (one_get rfl) ⟨_, rfl, ?_⟩
  repeat (first | refine VIf.tt ?_ | refine VIf.ff ?_)
  refine VIdxR.mk 1 rfl (by decide) ?_
  repeat (first | refine VIf.tt ?_ | refine VIf.ff ?_)
  refine VCells.mk [_] rfl (one_get rfl) ⟨_, rfl, ?_⟩
  repeat (first | refine VIf.tt ?_ | refine VIf.ff ?_)
  refine VFact.mk ⟨rfl, ?_⟩ trivial
  rw [e3, e4]; rfl
theorem b8_gen {p : List Pt} (hn : 1 ≤ p.length) (hP : ∀ x ∈ p, placeB x = true) : (-500000 ≤ (b8 p).a ∧ (b8 p).b ≤ 500000 ∧ -500000 ≤ (b8 p).c ∧ (b8 p).d ≤ 500000) ∧ (b8 p).In ∧ (∀ x ∈ (b8 p).pts, placeB x = true) ∧ Hl (b8 p).pts (eightP p) := by
  have hm := b8_met hn
  have hi := hm.in
  have bd : ∀ y ∈ p, -500000 ≤ y.1 ∧ y.1 ≤ 500000 ∧ -500000 ≤ y.2 ∧ y.2 ≤ 500000 := fun y hy => place_bd (hP y hy)
  obtain ⟨y1, m1, e1⟩ := (lo_spec fX hn).2
  obtain ⟨y2, m2, e2⟩ := (hi_spec fX hn).2
  obtain ⟨y3, m3, e3⟩ := (lo_spec fY hn).2
  obtain ⟨y4, m4, e4⟩ := (hi_spec fY hn).2
  have b1 := bd y1 m1
  have b2 := bd y2 m2
  have b3 := bd y3 m3
  have b4 := bd y4 m4
  unfold fX at e1 e2
  unfold fY at e3 e4
  have f1 : (b8 p).a = y1.1 := e1
  have f2 : (b8 p).b = y2.1 := e2
  have f3 : (b8 p).c = y3.2 := e3
  have f4 : (b8 p).d = y4.2 := e4
  refine ⟨by omega, hi, fun x hx => ?_, ?_⟩
  · have hx := hi.pts_has x hx
    unfold B8.has at hx
    simp only [placeB, isCb, Bool.and_eq_true, decide_eq_true_eq]
    omega
  · unfold eightP
    rw [hi.eq]
    exact around_hl (by simp [B8.pts])
theorem OctagonG_fn (v : Value) (ps : List Pt) (M : Mem) (hv : Pts M v ps) (hn : 1 ≤ ps.length) (hP : ∀ x ∈ ps, placeB x = true) : V.Fn Tryz.prog 70 [v] M fun rs M' => ∃ u, rs = [u] ∧ Pts M' u (eightP ps) := by
  obtain ⟨ad, c, rfl⟩ := hv.shape
  have hC : allC ps := fun i hi => place_C (hP _ (gp_mem hi))
  have b1 := Bounds_fn _ ps 1 0 M hv hn hC (by omega) (by omega)
  have b2 := Bounds_fn _ ps 0 1 M hv hn hC (by omega) (by omega)
  have b3 := Bounds_fn _ ps 1 1 M hv hn hC (by omega) (by omega)
  have b4 := Bounds_fn _ ps 1 (-1) M hv hn hC (by omega) (by omega)
  rw [lin10] at b1
  rw [lin01] at b2
  rw [lin11] at b3
  rw [lin1m] at b4
  obtain ⟨bd, bi, hpl, hh⟩ := b8_gen hn hP
  obtain ⟨h1, h2, h3, h4, h5, h6, h7, h8, h9, h10, h11⟩ := bi
  have b1 : FnP Tryz.prog 82 _ M [.int .i64 (b8 ps).a, .int .i64 (b8 ps).b] := b1
  have b2 : FnP Tryz.prog 82 _ M [.int .i64 (b8 ps).c, .int .i64 (b8 ps).d] := b2
  have b3 : FnP Tryz.prog 82 _ M [.int .i64 (b8 ps).s, .int .i64 (b8 ps).t] := b3
  have b4 : FnP Tryz.prog 82 _ M [.int .i64 (b8 ps).u, .int .i64 (b8 ps).v] := b4
  generalize b8 ps = B at *
  refine Fn.of_vc cxOK Tryz.func70 rfl rfl rfl ?_
  repeat (first | refine VIf.tt ?_ | refine VIf.ff ?_)
  refine VFn.p b1 ?_
  repeat (first | refine VIf.tt ?_ | refine VIf.ff ?_)
  refine VFn.p b2 ?_
  repeat (first | refine VIf.tt ?_ | refine VIf.ff ?_)
  refine VFn.p b3 ?_
  repeat (first | refine VIf.tt ?_ | refine VIf.ff ?_)
  refine VFn.p b4 ?_
  repeat (first | refine VIf.tt ?_ | refine VIf.ff ?_)
  refine VArith.ok (by first | omega | (simp only; omega)) (by first | omega | (simp only; omega)) ?_
  repeat (first | refine VIf.tt ?_ | refine VIf.ff ?_)
  refine VArith.ok (by first | omega | (simp only; omega)) (by first | omega | (simp only; omega)) ?_
  repeat (first | refine VIf.tt ?_ | refine VIf.ff ?_)
  refine VArith.ok (by first | omega | (simp only; omega)) (by first | omega | (simp only; omega)) ?_
  repeat (first | refine VIf.tt ?_ | refine VIf.ff ?_)
  refine VArith.ok (by first | omega | (simp only; omega)) (by first | omega | (simp only; omega)) ?_
  repeat (first | refine VIf.tt ?_ | refine VIf.ff ?_)
  refine VArith.ok (by first | omega | (simp only; omega)) (by first | omega | (simp only; omega)) ?_
  repeat (first | refine VIf.tt ?_ | refine VIf.ff ?_)
  refine VArith.ok (by first | omega | (simp only; omega)) (by first | omega | (simp only; omega)) ?_
  repeat (first | refine VIf.tt ?_ | refine VIf.ff ?_)
  refine VArith.ok (by first | omega | (simp only; omega)) (by first | omega | (simp only; omega)) ?_
  repeat (first | refine VIf.tt ?_ | refine VIf.ff ?_)
  refine VArith.ok (by first | omega | (simp only; omega)) (by first | omega | (simp only; omega)) ?_
  repeat (first | refine VIf.tt ?_ | refine VIf.ff ?_)
  refine VFz.mk fun x B1 M2 hM2 hx => ?_
  have hx : Pts M2 x [(B.b, B.b - B.v), (B.b, B.t - B.b), (B.t - B.d, B.d), (B.d + B.u, B.d), (B.a, B.a - B.u), (B.a, B.s - B.a), (B.s - B.c, B.c), (B.c + B.v, B.c)] := hx
  have hmem : ∀ y, y ∈ [(B.b, B.b - B.v), (B.b, B.t - B.b), (B.t - B.d, B.d), (B.d + B.u, B.d), (B.a, B.a - B.u), (B.a, B.s - B.a), (B.s - B.c, B.c), (B.c + B.v, B.c)] ↔ y ∈ B.pts := fun y => by
    unfold B8.pts
    simp only [List.mem_cons, List.not_mem_nil, or_false]
    constructor <;> (rintro (h | h | h | h | h | h | h | h) <;> simp [h])
  repeat (first | refine VIf.tt ?_ | refine VIf.ff ?_)
  refine VFn.mk _ (Around_fn x _ (eightP ps) M2 hx (hh.congr hmem) (fun p hp => all_isC (List.all_eq_true.2 hpl) p ((hmem p).1 hp)) (by simp)) ?_
  rintro rs M3 hM3 ⟨u, rfl, hu⟩
  repeat (first | refine VIf.tt ?_ | refine VIf.ff ?_)
  exact VFact.mk ⟨u, rfl, hu⟩ trivial
/-- A call of a function that hands back a slice of its own, its arguments plain. -/
theorem rowCall {P : Program} {f : Nat} {vs : List Value} {st : St} {K : SV → St → Prop} {E sz : Nat} {R : Nat → List Value → Mem → Prop} {M : Mem} (hF : FnRow P f vs M E sz R) (hM : st.M = M)
    (hK : ∀ n xs M', M.le M' → R n xs M' → K (.row st.nx) ⟨st.sl, (st.nx, some (.row E sz n xs)) :: st.ow, st.nx + 1, M', st.nt, st.G⟩) : VCall P f (vs.map .v) st K := by
  subst hM
  exact VCall.ofRow hF hK
theorem Fewer_fn (v : Value) (ps : List Pt) (M : Mem) (hv : Pts M v ps) (hn : 1 ≤ ps.length) (hP : ∀ x ∈ ps, placeB x = true) : V.Fn Tryz.prog 53 [v] M fun rs M' => ∃ u, rs = [u] ∧ Pts M' u (if 64 < ps.length then eightP ps else ps) := by
  obtain ⟨ad, c, rfl⟩ := hv.shape
  refine Fn.of_vc cxOK Tryz.func53 rfl rfl rfl ?_
  repeat (first | refine VIf.tt ?_ | refine VIf.ff ?_)
  refine VIf.mk (fun h => ?_) (fun h => ?_)
  · have h := of_decide_eq_true h
    repeat (first | refine VIf.tt ?_ | refine VIf.ff ?_)
    refine VFn.mk _ (OctagonG_fn _ ps M hv hn hP) ?_
    rintro rs M1 hM1 ⟨u, rfl, hu⟩
    repeat (first | refine VIf.tt ?_ | refine VIf.ff ?_)
    refine VFact.mk ⟨u, rfl, ?_⟩ trivial
    rw [if_pos (by omega)]; exact hu
  · have h := of_decide_eq_false h
    repeat (first | refine VIf.tt ?_ | refine VIf.ff ?_)
    refine VFact.mk ⟨_, rfl, ?_⟩ trivial
    rw [if_neg (by omega)]; exact hv
set_option maxRecDepth 20000 in
set_option maxHeartbeats 2000000 in
theorem Around09_fn (a n : Nat) (lo hi : Int) (M : Mem) (ha : a < 64) (hn : n < 32) (h1 : 0 ≤ lo) (h2 : lo ≤ hi) (h3 : hi ≤ 100000) : V.Fn Tryz.prog 31 [.int .i64 a, .int .i64 n, pt lo hi] M fun rs M' => ∃ u, rs = [u] ∧ Pts M' u (secP a n lo hi) := by
  have hlo : 0 ≤ lo ∧ lo ≤ 100000 := ⟨h1, by omega⟩
  have F1 := fun M' => Rounded09_row a lo 1001 M' (by omega) hlo (by decide)
  have F2 := fun M' => Rounded09_row (a + n) lo 1001 M' (by omega) hlo (by decide)
  rw [Int.natCast_add] at F2
  refine Fn.of_vc cxIOK Tryz.func31 rfl rfl rfl ?_
  repeat (first | refine VIf.tt ?_ | refine VIf.ff ?_)
  refine VDraw.code ?_
  repeat (first | refine VIf.tt ?_ | refine VIf.ff ?_)
  refine VCode.draws cxIOK [5] (by kernel_rfl) (Mem × Nat)
    (fun s => ⟨[(0, .v (.int .i64 a)), (1, .v (.int .i64 n)), (5, .v (.pointer (some ⟨s.2, 0, none⟩))), (7, .row 0)], [(0, some (.row 23 2 (secL a n lo hi 0).length (cellsP (secL a n lo hi 0))))], 1, s.1, 37, ⟨fun _ => none, none, fun _ => none⟩⟩)
    (fun s => M.le s.1 ∧ s.1 s.2 = some (.cells #[.int .i64 lo, .int .i64 hi] 25 (0, 0))) ?_ ?_
  · repeat (first | refine VIf.tt ?_ | refine VIf.ff ?_)
    refine VFzB.mk fun z1 D Mc hMc hD => ?_
    have hD : Mc D = some (.cells #[.int .i64 lo, .int .i64 hi] 25 (0, 0)) := hD
    repeat (first | refine VIf.tt ?_ | refine VIf.ff ?_)
    refine VRead.mk _ (cellAt hD 0 rfl) ?_
    repeat (first | refine VIf.tt ?_ | refine VIf.ff ?_)
    refine VArith.ok (by first | omega | (simp only; omega)) (by first | omega | (simp only; omega)) ?_
    repeat (first | refine VIf.tt ?_ | refine VIf.ff ?_)
    refine VRead.mk _ (cellAt hD 0 rfl) ?_
    have hc := Mem.le_refl Mc
    have e0 : cellsP (rndP (rayP a) lo 1001) ++ cellsP (rndP (rayP (a + n)) lo 1001) = cellsP (secL a n lo hi 0) := by unfold secL; simp [cellsP]
    repeat (first | refine VIf.tt ?_ | refine VIf.ff ?_)
    refine VOwn.own ?_
    refine rowCall (F1 Mc) rfl ?_
    rintro m1 xs1 Mc hn ⟨rfl, rfl⟩
    have hc := Mem.le.trans hc hn
    repeat (first | refine VIf.tt ?_ | refine VIf.ff ?_)
    refine VFact.mk hc ?_
    repeat (first | refine VIf.tt ?_ | refine VIf.ff ?_)
    refine VOwn.own ?_
    refine rowCall (F2 Mc) rfl ?_
    rintro m2 xs2 Mc hn ⟨rfl, rfl⟩
    have hc := Mem.le.trans hc hn
    repeat (first | refine VIf.tt ?_ | refine VIf.ff ?_)
    refine VFact.mk hc ?_
    repeat (first | refine VIf.tt ?_ | refine VIf.ff ?_)
    refine VFact.mk (by decide) ?_
    repeat (first | refine VIf.tt ?_ | refine VIf.ff ?_)
    refine VFact.mk hc ?_
    exact ⟨(Mc, D), ⟨hMc.trans hc, hc _ _ hD⟩, Wk.mk' (fun k => if k = 0 then 3 else k) (by repeat' constructor) ⟨⟨rfl, ⟨rfl, rfl, rfl, e0⟩⟩, trivial⟩ (by simp [injOK]) rfl rfl rfl⟩
  rintro ⟨M2, D⟩ m ⟨hM2, hD⟩
  simp only at hM2 hD
  repeat (first | refine VIf.tt ?_ | refine VIf.ff ?_)
  repeat (first | refine VIf.tt ?_ | refine VIf.ff ?_)
  refine VCode.loop cxIOK (Nat × Mem) (fun s => ⟨[(0, .v (.int .i64 a)), (1, .v (.int .i64 n)), (5, .v (.pointer (some ⟨D, 0, none⟩))), (7, .row 0), (8, .v (.int .i64 ((a : Int) + (s.1 : Int))))], [(0, some (.row 23 2 (secL a n lo hi s.1).length (cellsP (secL a n lo hi s.1))))], 1, s.2, 37, ⟨fun _ => none, none, fun _ => none⟩⟩)
    (fun s => s.1 ≤ n + 1 ∧ M2.le s.2) (fun s => n + 1 - s.1) (0, M2) ⟨Nat.zero_le _, Mem.le_refl _⟩ ?_ ?_
  · have ez : (a : Int) + ((0 : Nat) : Int) = a := by omega
    simp only [ez]
    exact (Wk.mk' id (by repeat' constructor) (by repeat' constructor) (injOK_id _) rfl rfl rfl)
  rintro ⟨k, M3⟩ ⟨hk, hM3⟩ m
  simp only at hk hM3
  repeat (first | refine VIf.tt ?_ | refine VIf.ff ?_)
  refine VArith.ok (by first | omega | (simp only; omega)) (by first | omega | (simp only; omega)) ?_
  repeat (first | refine VIf.tt ?_ | refine VIf.ff ?_)
  refine VIf.mk (fun hlt => ?_) (fun hge => ?_)
  · have hlt : k < n + 1 := by have := of_decide_eq_true hlt; omega
    have F3 := Rounded09_row (a + k) hi 998 M3 (by omega) ⟨by omega, h3⟩ (by decide)
    rw [Int.natCast_add] at F3
    repeat (first | refine VIf.tt ?_ | refine VIf.ff ?_)
    refine VRead.mk _ (cellAt (hM3 _ _ hD) 1 rfl) ?_
    repeat (first | refine VIf.tt ?_ | refine VIf.ff ?_)
    refine VOwn.own ?_
    refine rowCall F3 rfl ?_
    rintro m1 xs1 M4 hM4 ⟨rfl, rfl⟩
    have hkl := secL_len a n lo hi k
    repeat (first | refine VIf.tt ?_ | refine VIf.ff ?_)
    refine VFact.mk (by show ((secL a n lo hi k).length + 4) * 16 ≤ _; omega) ?_
    repeat (first | refine VIf.tt ?_ | refine VIf.ff ?_)
    refine VArith.ok (by first | omega | (simp only; omega)) (by first | omega | (simp only; omega)) ?_
    have ez : (a : Int) + ((k + 1 : Nat) : Int) = (a : Int) + (k : Int) + 1 := by omega
    refine ⟨(k + 1, M4), ⟨hlt, hM3.trans hM4⟩, by simp only; omega, ?_⟩
    simp only [ez]
    refine Wk.mk' (fun k => if k = 0 then 2 else k) (by repeat' constructor) ⟨⟨rfl, ⟨rfl, rfl, ?_, ?_⟩⟩, trivial⟩ (by simp [injOK]) rfl rfl rfl
    · rw [secL_len, secL_len]; omega
    · rw [secL_step]; simp [cellsP]
  · have hge : k = n + 1 := by have := of_decide_eq_false hge; omega
    subst hge
    repeat (first | refine VIf.tt ?_ | refine VIf.ff ?_)
    refine VOwn.frz ?_
    repeat (first | refine VIf.tt ?_ | refine VIf.ff ?_)
    refine VFz.mk fun xs Bx M4 hM4 hxs => ?_
    have hxs : Pts M4 xs (secA a n lo hi) := hxs
    have hpl : ∀ p ∈ secA a n lo hi, placeB p = true := secL_place ⟨h1, h2, h3⟩ (n + 1)
    have hll : (secA a n lo hi).length = 8 + 4 * (n + 1) := secL_len a n lo hi (n + 1)
    have hh := around_hl (secA_ne a n lo hi)
    repeat (first | refine VIf.tt ?_ | refine VIf.ff ?_)
    refine VFn.mk _ (Around_fn xs _ _ M4 hxs hh (fun p hp => place_C (hpl p hp)) (by omega)) ?_
    rintro rs M5 hM5 ⟨u, rfl, hu⟩
    repeat (first | refine VIf.tt ?_ | refine VIf.ff ?_)
    refine VOwn.frz ?_
    repeat (first | refine VIf.tt ?_ | refine VIf.ff ?_)
    refine VFn.mk _ (Fewer_fn u _ M5 hu hh.pos fun x hx => hpl x (hh.sub x hx)) ?_
    rintro rs M6 hM6 ⟨w, rfl, hw⟩
    rw [← sec_fewer hn ⟨h1, h2, h3⟩] at hw
    repeat (first | refine VIf.tt ?_ | refine VIf.ff ?_)
    exact VFact.mk ⟨w, rfl, hw⟩ trivial
theorem SectorR_fn (a n lo hi : Int) (M : Mem) : V.Fn Tryz.prog 12 [.int .i64 a, .int .i64 n, pt lo hi] M fun rs M' =>
    if secOK a n lo hi = true then ∃ u, rs = [u, .int .i64 0] ∧ Pts M' u (secP a.toNat n.toNat lo hi) else rs = [.slice none 0 0, .int .i64 1] := by
  refine Fn.of_vc cxOK Tryz.func12 rfl rfl rfl ?_
  repeat (first | refine VIf.tt ?_ | refine VIf.ff ?_)
  refine VFn.p (right_fn a n M) ?_
  repeat (first | refine VIf.tt ?_ | refine VIf.ff ?_)
  refine VIf.mk (fun h => ?_) (fun h => ?_)
  · repeat (first | refine VIf.tt ?_ | refine VIf.ff ?_)
    refine VFact.mk ?_ trivial
    have e : secOK a n lo hi = false := by unfold secOK; rw [(Bool.not_eq_true' _).mp h]; rfl
    rw [e]; rfl
  have h := (Bool.not_eq_false' _).mp h
  repeat (first | refine VIf.tt ?_ | refine VIf.ff ?_)
  refine VFn.p (Dist_fn lo hi M) ?_
  repeat (first | refine VIf.tt ?_ | refine VIf.ff ?_)
  refine VIf.mk (fun hd => ?_) (fun hd => ?_)
  · repeat (first | refine VIf.tt ?_ | refine VIf.ff ?_)
    refine VFact.mk ?_ trivial
    have e : secOK a n lo hi = false := by unfold secOK; rw [(Bool.not_eq_true' _).mp hd, Bool.and_false]
    rw [e]; rfl
  have hd := (Bool.not_eq_false' _).mp hd
  have e : secOK a n lo hi = true := by unfold secOK; rw [h, hd]; rfl
  have h := of_decide_eq_true h
  have hd := of_decide_eq_true hd
  have F := Around09_fn a.toNat n.toNat lo hi M (by omega) (by omega) hd.1 hd.2.1 hd.2.2
  rw [show ((a.toNat : Nat) : Int) = a by omega, show ((n.toNat : Nat) : Int) = n by omega] at F
  repeat (first | refine VIf.tt ?_ | refine VIf.ff ?_)
  refine VFn.mk _ F ?_
  rintro rs M1 hM1 ⟨u, rfl, hu⟩
  repeat (first | refine VIf.tt ?_ | refine VIf.ff ?_)
  refine VFact.mk ?_ trivial
  rw [e]
  exact ⟨u, rfl, hu⟩
end Go.Proofs.YtlppfikkgcfaoaaGreat

/- RayMatchesReference: all functions of package ray answer as the reference implementation does. No conditions beyond the statement's own. -/
namespace Go.Proofs.YtlppfikkgcfaoaaGreat.rayMatches
open Go Go.V Go.RowKit
set_option maxRecDepth 20000 in
set_option maxHeartbeats 4000000 in
theorem law_gen (a n : Int) (v d : Pt) (M : Mem) (ha : i64r a) (hn : i64r n) (hv : i64r v.1 ∧ i64r v.2) (hd : i64r d.1 ∧ i64r d.2) :
    V.Fn Tryz.prog 3 [.int .i64 a, .int .i64 n, pt v.1 v.2, pt d.1 d.2] M fun rs _ => rs = [.bool true] := by
  refine Fn.of_vc cxOK Tryz.func3 rfl rfl rfl ?_
  repeat (first | refine VIf.tt ?_ | refine VIf.ff ?_)
  refine VFn.mk _ (head09_fn M) ?_
  rintro rs M1 hM1 rfl
  -- Ray
  obtain ⟨p, e, hp⟩ : ∃ (p : Pt) (e : Int), (if decide (0 ≤ a ∧ a < 64) = true then [ptv (rayP a.toNat), Value.int .i64 0] else [pt 0 0, Value.int .i64 1]) = [ptv p, .int .i64 e] := by
    split
    · exact ⟨_, _, rfl⟩
    · exact ⟨(0, 0), _, rfl⟩
  have F1 := Ray_fn a M1
  have F2 := RayR_fn a M1
  rw [hp] at F1 F2
  repeat (first | refine VIf.tt ?_ | refine VIf.ff ?_)
  refine VFn.p F1 ?_
  repeat (first | refine VIf.tt ?_ | refine VIf.ff ?_)
  refine VFn.mk _ F2 ?_
  rintro rs M2 hM2 rfl
  repeat (first | refine VIf.tt ?_ | refine VIf.ff ?_)
  refine VIf.mk (fun _ => ?_) (fun h => ?_)
  rotate_left
  · simp at h
  -- Between
  obtain ⟨b, e2, hb⟩ : ∃ (b : Bool) (e2 : Int), (if (decide (0 ≤ a ∧ a < 64 ∧ 0 ≤ n ∧ n < 32) && vecB v) = true then [Value.bool (rawP a.toNat n.toNat v), Value.int .i64 0] else [.bool false, .int .i64 1]) = [.bool b, .int .i64 e2] := by
    split
    · exact ⟨_, _, rfl⟩
    · exact ⟨_, _, rfl⟩
  have F3 := Between_fn a n v M2
  have F4 := BetweenR_fn a n v M2
  rw [hb] at F3 F4
  repeat (first | refine VIf.tt ?_ | refine VIf.ff ?_)
  refine VFn.p F3 ?_
  repeat (first | refine VIf.tt ?_ | refine VIf.ff ?_)
  refine VFn.mk _ F4 ?_
  rintro rs M3 hM3 rfl
  repeat (first | refine VIf.tt ?_ | refine VIf.ff ?_)
  refine VIf.mk (fun _ => ?_) (fun h => ?_)
  rotate_left
  · simp at h
  repeat (first | refine VIf.tt ?_ | refine VIf.ff ?_)
  refine VIf.mk (fun _ => ?_) (fun h => ?_)
  rotate_left
  · simp at h
  -- Of
  obtain ⟨k, on, e3, G1, G2⟩ : ∃ (k : Int) (on : Bool) (e3 : Int), (∀ M, V.Fn Tryz.prog 9 [ptv v] M fun rs _ => rs = [.int .i64 k, .bool on, .int .i64 e3]) ∧ ∀ M, V.Fn Tryz.prog 10 [ptv v] M fun rs _ => rs = [.int .i64 k, .bool on, .int .i64 e3] := by
    by_cases hV : vecB v = true
    · have hz : ¬ (v.1 = 0 ∧ v.2 = 0) := fun h => by
        simp only [vecB, Bool.and_eq_true, Bool.not_eq_true', Bool.and_eq_false_iff, beq_eq_false_iff_ne] at hV
        rcases hV.2 with h1 | h1
        · exact h1 h.1
        · exact h1 h.2
      obtain ⟨k, hk⟩ := ofS_ex hz
      exact ⟨k, onP v k, 0, fun M => Of_is M hk hV rfl, fun M => OfR_is M hV hk⟩
    · refine ⟨0, false, 1, fun M => (Of_fn v M).mono fun rs M' _ r => ?_, fun M => OfR_fn v M (by simpa using hV)⟩
      rw [if_neg hV] at r
      exact r
  repeat (first | refine VIf.tt ?_ | refine VIf.ff ?_)
  refine VFn.mk _ (G1 M3) ?_
  rintro rs M4 hM4 rfl
  repeat (first | refine VIf.tt ?_ | refine VIf.ff ?_)
  refine VFn.mk _ (G2 M4) ?_
  rintro rs M5 hM5 rfl
  repeat (first | refine VIf.tt ?_ | refine VIf.ff ?_)
  refine VIf.mk (fun _ => ?_) (fun h => ?_)
  rotate_left
  · simp at h
  repeat (first | refine VIf.tt ?_ | refine VIf.ff ?_)
  refine VIf.mk (fun _ => ?_) (fun h => ?_)
  rotate_left
  · simp at h
  repeat (first | refine VIf.tt ?_ | refine VIf.ff ?_)
  refine VIf.mk (fun _ => ?_) (fun h => ?_)
  rotate_left
  · simp at h
  -- Sector
  obtain ⟨q, e4, S1, S2⟩ : ∃ (q : List Pt) (e4 : Int), (∀ M, V.Fn Tryz.prog 11 [.int .i64 a, .int .i64 n, pt d.1 d.2] M fun rs M' => ∃ u, rs = [u, .int .i64 e4] ∧ Pts M' u q) ∧ ∀ M, V.Fn Tryz.prog 12 [.int .i64 a, .int .i64 n, pt d.1 d.2] M fun rs M' => ∃ u, rs = [u, .int .i64 e4] ∧ Pts M' u q := by
    cases hs : secOK a n d.1 d.2 with
    | true => exact ⟨_, 0, fun M => (Sector_fn a n d.1 d.2 M).mono fun rs M' _ r => by rw [if_pos hs] at r; exact r, fun M => (SectorR_fn a n d.1 d.2 M).mono fun rs M' _ r => by rw [if_pos hs] at r; exact r⟩
    | false => exact ⟨[], 1, fun M => (Sector_fn a n d.1 d.2 M).mono fun rs M' _ r => by rw [hs, if_neg (by decide)] at r; exact ⟨_, r, Pts.nil _⟩, fun M => (SectorR_fn a n d.1 d.2 M).mono fun rs M' _ r => by rw [hs, if_neg (by decide)] at r; exact ⟨_, r, Pts.nil _⟩⟩
  repeat (first | refine VIf.tt ?_ | refine VIf.ff ?_)
  refine VFn.mk _ (S1 M5) ?_
  rintro rs M6 hM6 ⟨u, rfl, hu⟩
  repeat (first | refine VIf.tt ?_ | refine VIf.ff ?_)
  refine VFn.mk _ (S2 M6) ?_
  rintro rs M7 hM7 ⟨w, rfl, hw⟩
  repeat (first | refine VIf.tt ?_ | refine VIf.ff ?_)
  refine VIf.mk (fun _ => ?_) (fun h => ?_)
  rotate_left
  · simp at h
  have hS := Same_fn u w q q M7 (hu.le hM7) hw
  rw [decide_eq_true rfl] at hS
  repeat (first | refine VIf.tt ?_ | refine VIf.ff ?_)
  refine VFn.p hS ?_
  repeat (first | refine VIf.tt ?_ | refine VIf.ff ?_)
  refine VFact.mk ?_ trivial
  simp
theorem law_fn (a n x y lo hi : Int) (M : Mem) (ha : i64r a) (hn : i64r n) (hx : i64r x) (hy : i64r y) (hl : i64r lo) (hh : i64r hi) :
    V.Fn Tryz.prog 3 [.int .i64 a, .int .i64 n, pt x y, pt lo hi] M fun rs _ => rs = [.bool true] := law_gen a n (x, y) (lo, hi) M ha hn ⟨hx, hy⟩ ⟨hl, hh⟩
end Go.Proofs.YtlppfikkgcfaoaaGreat.rayMatches

namespace Go.Proofs.YtlppfikkgcfaoaaGreat.rayMatches
open Go Go.V Go.RowKit Go.ChangeShapes Go.WideShapes Go.ChangeAt
set_option linter.unusedVariables false
set_option maxRecDepth 100000 in
theorem lifted (os : Os) (started : os.Started) (H : Type) (enc : TypeId × Value → H) :
    ReturnsInHanded {} Tryz.checked os 3 .any (Rows.rayMatchesReferenceSpec.pre6 enc Tryz.prog Tryz.f3 Rows.rayMatchesReferenceRow.domain false) (Rows.rayMatchesReferenceSpec.post enc Tryz.prog Tryz.f3 false true false false) := by
  refine returnsInHanded_of_change (C := Tryz.checked) own started (by kernel_rfl) Tryz.func3
    (ChangeSpec.witness6 (enc := enc) (C := Tryz.checked) false ⟨#[], #[.int .i64 0, .int .i64 0, .agg #[.int .i64 0, .int .i64 0], .agg #[.int .i64 0, .int .i64 0]], []⟩ 8 (by kernel_rfl) (by kernel_rfl) (by kernel_rfl) (by kernel_rfl)) ?_
  intro W base args ds gs before hval0 hW hcnd _
  have hval : ∀ (j : Nat) t v, Tryz.f3.params[j]? = some t → args[j]? = some v → Value.okWide Tryz.prog W .any base t v := hval0
  have hW' := hW
  obtain ⟨p, q, hA0, hV, rfl, hfz, hnd⟩ := hW
  have hA : DataW.TrodAll enc Tryz.prog W 0 (fun _ => true) true Tryz.f3.params.toList args.toList ds p := hA0
  have hA1 := hA
  rw [Tryz.params3] at hA hval
  obtain ⟨v0, vs0, d0, ds0, p0, q0, hargs, rfl, rfl, h0, r0⟩ := trodAll_cons hA
  obtain ⟨v1, vs1, d1, ds1, p1, q1, rfl, rfl, rfl, h1, r1⟩ := trodAll_cons r0
  obtain ⟨v2, vs2, d2, ds2, p2, q2, rfl, rfl, rfl, h2, r2⟩ := trodAll_cons r1
  obtain ⟨v3, vs3, d3, ds3, p3, q3, rfl, rfl, rfl, h3, r3⟩ := trodAll_cons r2
  obtain ⟨rfl, rfl, rfl⟩ := trodAll_nil r3
  obtain rfl : args = #[v0, v1, v2, v3] := by cases args; simp_all
  obtain ⟨rfl, rfl⟩ := trodVars_none hV
  obtain ⟨l0, rfl, rfl, rfl, k0⟩ := open_int Tryz.underlying3 (hval 0 3 v0 rfl rfl) h0
  obtain ⟨l1, rfl, rfl, rfl, k1⟩ := open_int Tryz.underlying3 (hval 1 3 v1 rfl rfl) h1
  obtain ⟨ag2, rfl, _⟩ := okWide_struct Tryz.underlying23 (hval 2 23 v2 rfl rfl)
  obtain ⟨fuel2, t2⟩ := h2
  obtain ⟨l2, ⟨e2, k2, m2⟩, _⟩ := opens23 _ _ _ t2
  obtain ⟨ag2⟩ := ag2
  have e2 : ag2 = _ := e2
  subst e2
  obtain ⟨ag3, rfl, _⟩ := okWide_struct Tryz.underlying25 (hval 3 25 v3 rfl rfl)
  obtain ⟨fuel3, t3⟩ := h3
  obtain ⟨l3, ⟨e3, k3, m3⟩, _⟩ := opens25 _ _ _ t3
  obtain ⟨ag3⟩ := ag3
  have e3 : ag3 = _ := e3
  subst e3
  simp only [List.append_nil] at hW' hA1
  refine ((law_fn l0 l1 l2.1 l2.2 l3.1 l3.2 (memOf W) (wf_i64 k0) (wf_i64 k1) (k2) (m2) (k3) (m3)).2 W (memOf_ok W)).mono fun e W' ⟨rs, M', he, hb, _, _, _, hr⟩ => ?_
  subst he hr
  exact ⟨_, rfl, post_of_below laid (by rw [Tryz.params3]; exact of_decide_eq_true (by kernel_rfl)) rfl hW' hA1
    (fun _ _ _ => (trodAll_cons_mk (shut_bool Tryz.underlying4 _) trodAll_mk0)) rfl rfl hb (ok_one (by kernel_rfl) rfl (okWide_bool_mk Tryz.underlying4 _))⟩

/-- The statement. -/
theorem proved : Rows.RayMatchesReferenceSaid :=
  OpenClaim.holds_of_wide 3 Tryz.f3 rfl rfl rfl rfl rfl rfl rfl ⟨rfl, rfl, rfl, rfl, rfl⟩ rfl rfl rfl rfl rfl (by kernel_rfl) Tryz.func3 (by kernel_rfl)
    (of_decide_eq_true (by kernel_rfl)) (by unfold Func.isWrapper; first | (rw [if_pos (by decide +kernel)]; kernel_rfl) | (rw [if_neg (by decide +kernel)]; exact ⟨rfl, rfl⟩))
    (fun os started H enc _ => lifted os started H enc)
#print axioms proved
end Go.Proofs.YtlppfikkgcfaoaaGreat.rayMatches
