/- HullLeast: a hull is a polygon that has all its places, its corners are some of them, and any polygon that has all of them has its corners. No conditions beyond the statement's own. -/
import Derived.Test.YtaobaeiohjgdcaaHa7
/- Contracts: the reference's Corners, Box, Octagon, Eight, Area. -/
namespace Go.Proofs.Ytaobaeiohjgdcaa
open Go Go.V Go.RowKit
theorem lin10 : linP 1 0 = fX := funext fun p => by unfold linP fX; omega
theorem lin01 : linP 0 1 = fY := funext fun p => by unfold linP fY; omega
theorem lin11 : linP 1 1 = fS := funext fun p => by unfold linP fS; omega
theorem lin1m : linP 1 (-1) = fD := funext fun p => by unfold linP fD; omega
theorem Corners03_fn (v : Value) (ps : List Pt) (M : Mem) (hv : Pts M v ps) (hn : 1 ≤ ps.length) (hC : allC ps) : FnP Try.prog 71 [v] M [ptv (boxLo ps), ptv (boxHi ps)] := by
  obtain ⟨ad, c, rfl⟩ := hv.shape
  have b1 := Bounds_fn _ ps 1 0 M hv hn hC (by omega) (by omega)
  have b2 := Bounds_fn _ ps 0 1 M hv hn hC (by omega) (by omega)
  rw [lin10] at b1
  rw [lin01] at b2
  refine Fn.of_vc cxOK Try.func71 rfl rfl rfl ?_
  repeat (first | refine VIf.tt ?_ | refine VIf.ff ?_)
  refine VFn.p b1 ?_
  repeat (first | refine VIf.tt ?_ | refine VIf.ff ?_)
  refine VFn.p b2 ?_
  repeat (first | refine VIf.tt ?_ | refine VIf.ff ?_)
  exact VFact.mk ⟨rfl, rfl⟩ trivial
theorem BoxR_fn (v : Value) (ps : List Pt) (M : Mem) (hv : Pts M v ps) (h64 : i64P ps) : V.Fn Try.prog 35 [v] M fun rs _ => rs = if validB ps = true then [ptv (boxLo ps), ptv (boxHi ps), .int .i64 0] else [pt 0 0, pt 0 0, .int .i64 1] := by
  obtain ⟨ad, c, rfl⟩ := hv.shape
  refine Fn.of_vc cxOK Try.func35 rfl rfl rfl ?_
  repeat (first | refine VIf.tt ?_ | refine VIf.ff ?_)
  refine VFn.p (ValidR_fn _ ps M hv h64) ?_
  rw [validR_eq]
  repeat (first | refine VIf.tt ?_ | refine VIf.ff ?_)
  refine VIf.mk (fun h => ?_) (fun h => ?_)
  · repeat (first | refine VIf.tt ?_ | refine VIf.ff ?_)
    refine VFact.mk ?_ trivial
    rw [bn1 h]; rfl
  have hV := bn2 h
  repeat (first | refine VIf.tt ?_ | refine VIf.ff ?_)
  refine VFn.p (Corners03_fn _ ps M hv (len_one hV).1 (allC_valid hV)) ?_
  repeat (first | refine VIf.tt ?_ | refine VIf.ff ?_)
  refine VDraw.still [5, 6] (by kernel_rfl) ?_
  repeat (first | refine VIf.tt ?_ | refine VIf.ff ?_)
  refine VFzB.mk fun x1 B1 M1 hM1 h1 => ?_
  repeat (first | refine VIf.tt ?_ | refine VIf.ff ?_)
  refine VFzB.mk fun x2 B2 M2 hM2 h2 => ?_
  repeat (first | refine VIf.tt ?_ | refine VIf.ff ?_)
  refine VReads.mk [.int .i64 (boxLo ps).1, .int .i64 (boxLo ps).2] rfl (fun j v hj => cellAt (hM2 _ _ h1) j (by simpa using hj)) ?_
  repeat (first | refine VIf.tt ?_ | refine VIf.ff ?_)
  refine VReads.mk [.int .i64 (boxHi ps).1, .int .i64 (boxHi ps).2] rfl (fun j v hj => cellAt h2 j (by simpa using hj)) ?_
  repeat (first | refine VIf.tt ?_ | refine VIf.ff ?_)
  refine VFact.mk (Mem.le_refl _) ?_
  repeat (first | refine VIf.tt ?_ | refine VIf.ff ?_)
  refine VFact.mk (Mem.le_refl _) ?_
  repeat (first | refine VIf.tt ?_ | refine VIf.ff ?_)
  refine VFact.mk ?_ trivial
  rw [hV]; rfl
theorem Octagon_fn (v : Value) (ps : List Pt) (M : Mem) (hv : Pts M v ps) (hV : validB ps = true) : V.Fn Try.prog 74 [v] M fun rs M' => ∃ u, rs = [u] ∧ Pts M' u (eightP ps) := by
  obtain ⟨ad, c, rfl⟩ := hv.shape
  have hn := (len_one hV).1
  have hC := allC_valid hV
  have b1 := Bounds_fn _ ps 1 0 M hv hn hC (by omega) (by omega)
  have b2 := Bounds_fn _ ps 0 1 M hv hn hC (by omega) (by omega)
  have b3 := Bounds_fn _ ps 1 1 M hv hn hC (by omega) (by omega)
  have b4 := Bounds_fn _ ps 1 (-1) M hv hn hC (by omega) (by omega)
  rw [lin10] at b1
  rw [lin01] at b2
  rw [lin11] at b3
  rw [lin1m] at b4
  obtain ⟨bd, bi⟩ := b8_bd hV
  have hpl := (eight_spec hV).2.2.2.2.1
  have hh := (eight_spec hV).1
  obtain ⟨h1, h2, h3, h4, h5, h6, h7, h8, h9, h10, h11⟩ := bi
  have b1 : FnP Try.prog 103 _ M [.int .i64 (b8 ps).a, .int .i64 (b8 ps).b] := b1
  have b2 : FnP Try.prog 103 _ M [.int .i64 (b8 ps).c, .int .i64 (b8 ps).d] := b2
  have b3 : FnP Try.prog 103 _ M [.int .i64 (b8 ps).s, .int .i64 (b8 ps).t] := b3
  have b4 : FnP Try.prog 103 _ M [.int .i64 (b8 ps).u, .int .i64 (b8 ps).v] := b4
  generalize b8 ps = B at *
  refine Fn.of_vc cxOK Try.func74 rfl rfl rfl ?_
  repeat (first | refine VIf.tt ?_ | refine VIf.ff ?_)
  refine VFn.p b1 ?_
  repeat (first | refine VIf.tt ?_ | refine VIf.ff ?_)
  refine VFn.p b2 ?_
  repeat (first | refine VIf.tt ?_ | refine VIf.ff ?_)
  refine VFn.p b3 ?_
  repeat (first | refine VIf.tt ?_ | refine VIf.ff ?_)
  refine VFn.p b4 ?_
  repeat (first | refine VIf.tt ?_ | refine VIf.ff ?_)
  refine VArith.ok (by first | omega | (simp only; omega)) (by first | omega | (simp only; omega)) ?_
  repeat (first | refine VIf.tt ?_ | refine VIf.ff ?_)
  refine VArith.ok (by first | omega | (simp only; omega)) (by first | omega | (simp only; omega)) ?_
  repeat (first | refine VIf.tt ?_ | refine VIf.ff ?_)
  refine VArith.ok (by first | omega | (simp only; omega)) (by first | omega | (simp only; omega)) ?_
  repeat (first | refine VIf.tt ?_ | refine VIf.ff ?_)
  refine VArith.ok (by first | omega | (simp only; omega)) (by first | omega | (simp only; omega)) ?_
  repeat (first | refine VIf.tt ?_ | refine VIf.ff ?_)
  refine VArith.ok (by first | omega | (simp only; omega)) (by first | omega | (simp only; omega)) ?_
  repeat (first | refine VIf.tt ?_ | refine VIf.ff ?_)
  refine VArith.ok (by first | omega | (simp only; omega)) (by first | omega | (simp only; omega)) ?_
  repeat (first | refine VIf.tt ?_ | refine VIf.ff ?_)
  refine VArith.ok (by first | omega | (simp only; omega)) (by first | omega | (simp only; omega)) ?_
  repeat (first | refine VIf.tt ?_ | refine VIf.ff ?_)
  refine VArith.ok (by first | omega | (simp only; omega)) (by first | omega | (simp only; omega)) ?_
  repeat (first | refine VIf.tt ?_ | refine VIf.ff ?_)
  refine VFz.mk fun x B1 M2 hM2 hx => ?_
  have hx : Pts M2 x [(B.b, B.b - B.v), (B.b, B.t - B.b), (B.t - B.d, B.d), (B.d + B.u, B.d), (B.a, B.a - B.u), (B.a, B.s - B.a), (B.s - B.c, B.c), (B.c + B.v, B.c)] := hx
  have hmem : ∀ y, y ∈ [(B.b, B.b - B.v), (B.b, B.t - B.b), (B.t - B.d, B.d), (B.d + B.u, B.d), (B.a, B.a - B.u), (B.a, B.s - B.a), (B.s - B.c, B.c), (B.c + B.v, B.c)] ↔ y ∈ B.pts := fun y => by
    unfold B8.pts
    simp only [List.mem_cons, List.not_mem_nil, or_false]
    constructor <;> (rintro (h | h | h | h | h | h | h | h) <;> simp [h])
  repeat (first | refine VIf.tt ?_ | refine VIf.ff ?_)
  refine VFn.mk _ (Around_fn x _ (eightP ps) M2 hx (hh.congr hmem) (fun p hp => all_isC (List.all_eq_true.2 hpl) p ((hmem p).1 hp)) (by simp)) ?_
  rintro rs M3 hM3 ⟨u, rfl, hu⟩
  repeat (first | refine VIf.tt ?_ | refine VIf.ff ?_)
  exact VFact.mk ⟨u, rfl, hu⟩ trivial
theorem EightR_fn (v : Value) (ps : List Pt) (M : Mem) (hv : Pts M v ps) (h64 : i64P ps) : V.Fn Try.prog 37 [v] M fun rs M' => if validB ps = true then ∃ u, rs = [u, .int .i64 0] ∧ Pts M' u (eightP ps) else rs = [.slice none 0 0, .int .i64 1] := by
  refine Fn.of_vc cxOK Try.func37 rfl rfl rfl ?_
  repeat (first | refine VIf.tt ?_ | refine VIf.ff ?_)
  refine VFn.p (ValidR_fn _ ps M hv h64) ?_
  rw [validR_eq]
  repeat (first | refine VIf.tt ?_ | refine VIf.ff ?_)
  refine VIf.mk (fun h => ?_) (fun h => ?_)
  · repeat (first | refine VIf.tt ?_ | refine VIf.ff ?_)
    refine VFact.mk ?_ trivial
    show if _ then _ else _
    rw [bn1 h]; rfl
  have hV := bn2 h
  repeat (first | refine VIf.tt ?_ | refine VIf.ff ?_)
  refine VFn.mk _ (Octagon_fn _ ps M hv hV) ?_
  rintro rs M3 hM3 ⟨u, rfl, hu⟩
  repeat (first | refine VIf.tt ?_ | refine VIf.ff ?_)
  refine VFact.mk ?_ trivial
  show if _ then _ else _
  rw [if_pos hV]
  exact ⟨u, rfl, hu⟩
theorem AreaR_fn (v : Value) (ps : List Pt) (M : Mem) (hv : Pts M v ps) (h64 : i64P ps) : FnP Try.prog 39 [v] M (if validB ps = true then [.int .i64 (areaB ps), .int .i64 0] else [.int .i64 0, .int .i64 1]) := by
  obtain ⟨ad, c, rfl⟩ := hv.shape
  obtain ⟨_, hm, hrd⟩ := hv.cellsOf
  refine Fn.of_vc cxOK Try.func39 rfl rfl rfl ?_
  repeat (first | refine VIf.tt ?_ | refine VIf.ff ?_)
  refine VFn.p (ValidR_fn _ ps M hv h64) ?_
  rw [validR_eq]
  repeat (first | refine VIf.tt ?_ | refine VIf.ff ?_)
  refine VIf.mk (fun h => ?_) (fun h => ?_)
  · repeat (first | refine VIf.tt ?_ | refine VIf.ff ?_)
    refine VFact.mk ⟨?_, rfl⟩ trivial
    rw [bn1 h]; rfl
  have hV := bn2 h
  have hn := len_one hV
  have hC := allC_valid hV
  have a1 : areaS ps 1 = 0 := by
    unfold areaS sm sm
    rw [crossP_self]; rfl
  repeat (first | refine VIf.tt ?_ | refine VIf.ff ?_)
  refine VCode.loop cxOK (Nat × Int) (fun s => ⟨[(0, .v (.slice ad ps.length c)), (4, .v (.int .i64 s.2)), (5, .v (.int .i64 s.1))], [], 0, M, 32, ⟨fun _ => none, none, fun _ => none⟩⟩)
    (fun s => 1 ≤ s.1 ∧ s.1 ≤ ps.length ∧ s.2 = areaS ps s.1) (fun s => ps.length - s.1) (1, 0) ⟨Nat.le_refl _, hn.1, a1.symm⟩ (Wk.mk' id (by repeat' constructor) (by repeat' constructor) (injOK_id _) rfl rfl rfl) ?_
  rintro ⟨i, z⟩ ⟨hi1, hi, hz⟩ m
  have hi1 : 1 ≤ i := hi1
  have hi : i ≤ ps.length := hi
  have hz : z = areaS ps i := hz
  repeat (first | refine VIf.tt ?_ | refine VIf.ff ?_)
  refine VArith.ok (by first | omega | (simp only; omega)) (by first | omega | (simp only; omega)) ?_
  repeat (first | refine VIf.tt ?_ | refine VIf.ff ?_)
  refine VIf.mk (fun hlt => ?_) (fun hge => ?_)
  · have hlt : i + 1 < ps.length := by have := of_decide_eq_true hlt; omega
    obtain ⟨ad0, e0, r0⟩ := hrd M (Mem.le_refl _) 0 (by omega)
    obtain ⟨ad1, e1, r1⟩ := hrd M (Mem.le_refl _) i (by omega)
    obtain ⟨ad2, e2, r2⟩ := hrd M (Mem.le_refl _) (i + 1) hlt
    have c0 := hC 0 (by omega)
    have c1 := hC i (by omega)
    have c2 := hC (i + 1) hlt
    have bz := areaS_bd hC (k := i) (by omega)
    have bc := cross_bd c0 c1 c2
    unfold crossP at bc
    repeat (first | refine VIf.tt ?_ | refine VIf.ff ?_)
    refine VDraw.go (by kernel_rfl) ?_
    repeat (first | refine VIf.tt ?_ | refine VIf.ff ?_)
    refine VIdx.mk ad0 0 e0 rfl (by omega) ?_
    repeat (first | refine VIf.tt ?_ | refine VIf.ff ?_)
    refine VReads.mk [.int .i64 (gp ps 0).1, .int .i64 (gp ps 0).2] rfl r0 ?_
    repeat (first | refine VIf.tt ?_ | refine VIf.ff ?_)
    refine VIdx.mk ad1 i e1 rfl (by omega) ?_
    repeat (first | refine VIf.tt ?_ | refine VIf.ff ?_)
    refine VReads.mk [.int .i64 (gp ps i).1, .int .i64 (gp ps i).2] rfl r1 ?_
    repeat (first | refine VIf.tt ?_ | refine VIf.ff ?_)
    refine VArith.ok (by first | omega | (simp only; omega)) (by first | omega | (simp only; omega)) ?_
    repeat (first | refine VIf.tt ?_ | refine VIf.ff ?_)
    refine VIdx.mk ad2 (i + 1) e2 rfl hlt ?_
    repeat (first | refine VIf.tt ?_ | refine VIf.ff ?_)
    refine VReads.mk [.int .i64 (gp ps (i + 1)).1, .int .i64 (gp ps (i + 1)).2] rfl r2 ?_
    repeat (first | refine VIf.tt ?_ | refine VIf.ff ?_)
    refine VFn.p (Cross_fn _ _ _ _ _ _ _ c0.1 c0.2 c1.1 c1.2 c2.1 c2.2) ?_
    repeat (first | refine VIf.tt ?_ | refine VIf.ff ?_)
    refine VArith.ok (by first | omega | (simp only; omega)) (by first | omega | (simp only; omega)) ?_
    repeat (first | refine VIf.tt ?_ | refine VIf.ff ?_)
    refine VArith.ok (by first | omega | (simp only; omega)) (by first | omega | (simp only; omega)) ?_
    refine ⟨(i + 1, z + cross (gp ps 0).1 (gp ps 0).2 (gp ps i).1 (gp ps i).2 (gp ps (i + 1)).1 (gp ps (i + 1)).2), ⟨by simp only; omega, by simp only; omega, ?_⟩, (by first | omega | (simp only; omega)), (Wk.mk' id (by repeat' constructor) (by repeat' constructor) (injOK_id _) rfl rfl rfl)⟩
    rw [hz]
    unfold areaS
    simp only [sm, Nat.mod_eq_of_lt hlt]
    rfl
  · have hge : ps.length ≤ i + 1 := by have := of_decide_eq_false hge; omega
    have ez : z = areaB ps := by
      rw [hz]
      by_cases e : i = ps.length
      · subst e; rfl
      · have e' : ps.length = i + 1 := by omega
        unfold areaS areaB
        rw [e']
        simp only [sm, Nat.mod_self]
        rw [crossP_a]; omega
    repeat (first | refine VIf.tt ?_ | refine VIf.ff ?_)
    refine VFact.mk ⟨?_, rfl⟩ trivial
    rw [hV, ez]; rfl
end Go.Proofs.Ytaobaeiohjgdcaa

/- Contracts: the same, with the value given; the statements' examples. -/
namespace Go.Proofs.Ytaobaeiohjgdcaa
open Go Go.V Go.RowKit
theorem Hull_is {v : Value} {l p : List Pt} {e : Int} {M : Mem} (hv : Pts M v l) (h64 : i64P l) (hr : hullB l = (p, e)) : V.Fn Try.prog 29 [v] M fun rs M' => ∃ u, rs = [u, .int .i64 e] ∧ Pts M' u p := by
  have := Hull_fn v l M hv h64
  rw [hr] at this
  exact this
theorem HullR_is {v : Value} {l p : List Pt} {e : Int} {M : Mem} (hv : Pts M v l) (hr : hullB l = (p, e)) : V.Fn Try.prog 30 [v] M fun rs M' => ∃ u, rs = [u, .int .i64 e] ∧ Pts M' u p := by
  have := HullR_fn v l M hv
  rw [hr] at this
  exact this
theorem Area_is {v : Value} {ps : List Pt} {n : Int} {M : Mem} (hv : Pts M v ps) (h64 : i64P ps) (hV : validB ps = true) (hr : areaB ps = n) : V.Fn Try.prog 38 [v] M fun rs _ => rs = [.int .i64 n, .int .i64 0] := by
  have := Area_fn v ps M hv h64
  rw [hV, hr] at this
  exact this
theorem Area_no {v : Value} {ps : List Pt} {M : Mem} (hv : Pts M v ps) (h64 : i64P ps) (hV : validB ps = false) : V.Fn Try.prog 38 [v] M fun rs _ => rs = [.int .i64 0, .int .i64 1] := by
  have := Area_fn v ps M hv h64
  rw [hV] at this
  exact this
theorem Eight_is {v : Value} {ps q : List Pt} {M : Mem} (hv : Pts M v ps) (h64 : i64P ps) (hV : validB ps = true) (hr : eightP ps = q) : V.Fn Try.prog 36 [v] M fun rs M' => ∃ u, rs = [u, .int .i64 0] ∧ Pts M' u q := by
  have := Eight_fn v ps M hv h64
  simp only [hV, if_true] at this
  rw [hr] at this
  exact this
theorem Eight_no {v : Value} {ps : List Pt} {M : Mem} (hv : Pts M v ps) (h64 : i64P ps) (hV : validB ps = false) : V.Fn Try.prog 36 [v] M fun rs M' => rs = [.slice none 0 0, .int .i64 1] := by
  have := Eight_fn v ps M hv h64
  simp only [hV, Bool.false_eq_true, if_false] at this
  exact this
theorem EightR_is {v : Value} {ps q : List Pt} {M : Mem} (hv : Pts M v ps) (h64 : i64P ps) (hV : validB ps = true) (hr : eightP ps = q) : V.Fn Try.prog 37 [v] M fun rs M' => ∃ u, rs = [u, .int .i64 0] ∧ Pts M' u q := by
  have := EightR_fn v ps M hv h64
  simp only [hV, if_true] at this
  rw [hr] at this
  exact this
theorem EightR_no {v : Value} {ps : List Pt} {M : Mem} (hv : Pts M v ps) (h64 : i64P ps) (hV : validB ps = false) : V.Fn Try.prog 37 [v] M fun rs M' => rs = [.slice none 0 0, .int .i64 1] := by
  have := EightR_fn v ps M hv h64
  simp only [hV, Bool.false_eq_true, if_false] at this
  exact this
theorem Box_is {v : Value} {ps : List Pt} {lo hi : Pt} {M : Mem} (hv : Pts M v ps) (h64 : i64P ps) (hV : validB ps = true) (hl : boxLo ps = lo) (hh : boxHi ps = hi) : V.Fn Try.prog 34 [v] M fun rs _ => rs = [ptv lo, ptv hi, .int .i64 0] := by
  have := Box_fn v ps M hv h64
  rw [hV, hl, hh] at this
  exact this
theorem Box_no {v : Value} {ps : List Pt} {M : Mem} (hv : Pts M v ps) (h64 : i64P ps) (hV : validB ps = false) : V.Fn Try.prog 34 [v] M fun rs _ => rs = [pt 0 0, pt 0 0, .int .i64 1] := by
  have := Box_fn v ps M hv h64
  rw [hV] at this
  exact this
theorem BoxR_is {v : Value} {ps : List Pt} {lo hi : Pt} {M : Mem} (hv : Pts M v ps) (h64 : i64P ps) (hV : validB ps = true) (hl : boxLo ps = lo) (hh : boxHi ps = hi) : V.Fn Try.prog 35 [v] M fun rs _ => rs = [ptv lo, ptv hi, .int .i64 0] := by
  have := BoxR_fn v ps M hv h64
  rw [hV, hl, hh] at this
  exact this
theorem BoxR_no {v : Value} {ps : List Pt} {M : Mem} (hv : Pts M v ps) (h64 : i64P ps) (hV : validB ps = false) : V.Fn Try.prog 35 [v] M fun rs _ => rs = [pt 0 0, pt 0 0, .int .i64 1] := by
  have := BoxR_fn v ps M hv h64
  rw [hV] at this
  exact this
/-- What Has says. -/
def hasE (ps : List Pt) (x : Pt) : Bool × Int := if (validB ps && placeB x) = true then (hasB ps x, 0) else (false, 1)
theorem hasB_is {v : Value} {ps : List Pt} {x : Pt} {b : Bool} {e : Int} {M : Mem} (hv : Pts M v ps) (h64 : i64P ps) (hx : i64r x.1 ∧ i64r x.2) (hr : hasE ps x = (b, e)) : V.Fn Try.prog 26 [v, ptv x] M fun rs _ => rs = [.bool b, .int .i64 e] := by
  have := Has_fn v ps x.1 x.2 M hv h64 hx.1 hx.2
  unfold hasE at hr
  by_cases h : (validB ps && placeB x) = true
  · rw [if_pos h] at hr
    simp only [h, if_true] at this
    cases hr; exact this
  · rw [if_neg h] at hr
    simp only [h, Bool.false_eq_true, if_false] at this
    cases hr; exact this
theorem HasR_is {v : Value} {ps : List Pt} {x : Pt} {b : Bool} {e : Int} {M : Mem} (hv : Pts M v ps) (h64 : i64P ps) (hr : hasE ps x = (b, e)) : FnP Try.prog 33 [v, ptv x] M [.bool b, .int .i64 e] := by
  have := HasR_fn v ps x M hv h64
  unfold hasE at hr
  by_cases h : (validB ps && placeB x) = true
  · rw [if_pos h] at hr this
    cases hr; exact this
  · rw [if_neg h] at hr this
    cases hr; exact this
def six : List Pt := [(0, 0), (4, 0), (2, 1), (4, 4), (2, 0), (0, 4)]
def sq : List Pt := [(0, 0), (4, 0), (4, 4), (0, 4)]
def two : List Pt := [(0, 0), (5, 1)]
def rhomb : List Pt := [(0, 0), (4, 0), (5, 1), (1, 1)]
theorem hull_six : hullB six = (sq, 0) := by
  have h : aroundP six = sq := around_eq (hl_of_has (by decide) (by decide) (by decide))
  unfold hullB
  rw [h, if_neg (by decide), if_neg (by decide), if_neg (by decide)]
theorem eight_two : eightP two = rhomb := by
  unfold eightP
  exact around_eq (hl_of_has (by decide) (by decide) (by decide))
theorem hull_nil : hullB [] = ([], 1) := rfl
theorem hull_far : hullB [(500001, 0)] = ([], 1) := by
  unfold hullB
  rw [if_neg (by decide), if_pos (by decide)]
theorem i64P_of {ps : List Pt} (h : ∀ p ∈ ps, i64r p.1 ∧ i64r p.2) : i64P ps := fun i hi => h _ (gp_mem hi)
theorem i64P_valid {ps : List Pt} (hV : validB ps = true) : i64P ps := fun i hi => by
  have := allC_valid hV i hi
  unfold isC at this
  unfold i64r
  omega
end Go.Proofs.Ytaobaeiohjgdcaa

/- Contract: the examples at the head of the hull's laws. -/
namespace Go.Proofs.Ytaobaeiohjgdcaa
open Go Go.V Go.RowKit
set_option maxRecDepth 100000 in
set_option maxHeartbeats 4000000 in
theorem head03_fn (M : Mem) : V.Fn Try.prog 28 [] M fun rs _ => rs = [.bool true] := by
  refine Fn.of_vc cxOK Try.func28 rfl rfl rfl ?_
  repeat (first | refine VIf.tt ?_ | refine VIf.ff ?_)
  refine VFz.mk fun x1 _ M1 hM1 hx1 => ?_
  have hx1 : Pts M1 x1 six := hx1
  repeat (first | refine VIf.tt ?_ | refine VIf.ff ?_)
  refine VFn.mk _ (Hull_is hx1 (i64_of (by decide)) hull_six) ?_
  rintro rs M2 hM2 ⟨u, rfl, hu⟩
  have s64 : i64P sq := i64_of (by decide)
  repeat (first | refine VIf.tt ?_ | refine VIf.ff ?_)
  refine VFn.mk _ (Area_is hu s64 (n := 32) (by decide) (by decide)) ?_
  rintro rs M3 hM3 rfl
  repeat (first | refine VIf.tt ?_ | refine VIf.ff ?_)
  refine VFz.mk fun x2 _ M4 hM4 hx2 => ?_
  have hx2 : Pts M4 x2 two := hx2
  repeat (first | refine VIf.tt ?_ | refine VIf.ff ?_)
  refine VFn.mk _ (Eight_is hx2 (i64_of (by decide)) (by decide) eight_two) ?_
  rintro rs M5 hM5 ⟨w, rfl, hw⟩
  have m5 : M2.le M5 := (hM3.trans hM4).trans hM5
  repeat (first | refine VIf.tt ?_ | refine VIf.ff ?_)
  refine VFn.mk _ (Box_is (hu.le m5) s64 (lo := (0, 0)) (hi := (4, 4)) (by decide) (by decide) (by decide)) ?_
  rintro rs M6 hM6 rfl
  have m6 := m5.trans hM6
  repeat (first | refine VIf.tt ?_ | refine VIf.ff ?_)
  refine VFn.mk _ (hasB_is (x := (4, 3)) (b := true) (e := 0) (hu.le m6) s64 (by decide) (by decide)) ?_
  rintro rs M7 hM7 rfl
  have m7 := m6.trans hM7
  repeat (first | refine VIf.tt ?_ | refine VIf.ff ?_)
  refine VFn.mk _ (hasB_is (x := (5, 3)) (b := false) (e := 0) (hu.le m7) s64 (by decide) (by decide)) ?_
  rintro rs M8 hM8 rfl
  have m8 := m7.trans hM8
  repeat (first | refine VIf.tt ?_ | refine VIf.ff ?_)
  refine VFn.mk _ (Hull_is (Pts.nil _) (i64_of (by decide)) hull_nil) ?_
  rintro rs M9 hM9 ⟨u1, rfl, _⟩
  have m9 := m8.trans hM9
  repeat (first | refine VIf.tt ?_ | refine VIf.ff ?_)
  refine VFz.mk fun x3 _ M10 hM10 hx3 => ?_
  have hx3 : Pts M10 x3 [(500001, 0)] := hx3
  repeat (first | refine VIf.tt ?_ | refine VIf.ff ?_)
  refine VFn.mk _ (Hull_is hx3 (i64_of (by decide)) hull_far) ?_
  rintro rs M11 hM11 ⟨u2, rfl, _⟩
  have m11 := (m9.trans hM10).trans hM11
  repeat (first | refine VIf.tt ?_ | refine VIf.ff ?_)
  refine VFz.mk fun y1 _ M12 hM12 hy1 => ?_
  have hy1 : Pts M12 y1 sq := hy1
  have m12 := m11.trans hM12
  repeat (first | refine VIf.tt ?_ | refine VIf.ff ?_)
  refine VFn.p (Same_fn u y1 sq sq M12 (hu.le m12) hy1) ?_
  repeat (first | refine VIf.tt ?_ | refine VIf.ff ?_)
  refine VFz.mk fun y2 _ M13 hM13 hy2 => ?_
  have hy2 : Pts M13 y2 rhomb := hy2
  have m13 := m12.trans hM13
  have w13 : M5.le M13 := (((((hM6.trans hM7).trans hM8).trans hM9).trans (hM10.trans hM11)).trans hM12).trans hM13
  repeat (first | refine VIf.tt ?_ | refine VIf.ff ?_)
  refine VFn.p (Same_fn w y2 rhomb rhomb M13 (hw.le w13) hy2) ?_
  repeat (first | refine VIf.tt ?_ | refine VIf.ff ?_)
  refine VFn.mk _ (Valid_fn u sq M13 (hu.le m13) s64) ?_
  rintro rs M14 hM14 rfl
  repeat (first | refine VIf.tt ?_ | refine VIf.ff ?_)
  refine VFn.mk _ (Valid_fn _ [] M14 (Pts.nil _) (i64_of (by decide))) ?_
  rintro rs M15 hM15 rfl
  repeat (first | refine VIf.tt ?_ | refine VIf.ff ?_)
  refine VFact.mk ?_ trivial
  exact congrArg (fun b => [Value.bool b]) (by decide)
end Go.Proofs.Ytaobaeiohjgdcaa

/- HullMatchesReference: all functions of package hull return what the reference returns. No conditions beyond the statement's own. -/
namespace Go.Proofs.Ytaobaeiohjgdcaa
open Go Go.V Go.RowKit
theorem Same_is {v w : Value} {ps : List Pt} {M : Mem} (hv : Pts M v ps) (hw : Pts M w ps) : FnP Try.prog 31 [v, w] M [.bool true] := by
  have := Same_fn v w ps ps M hv hw
  rw [decide_eq_true rfl] at this
  exact this
theorem V_is {v : Value} {ps : List Pt} {b : Bool} {M : Mem} (hv : Pts M v ps) (h64 : i64P ps) (hr : validB ps = b) : V.Fn Try.prog 25 [v] M fun rs _ => rs = [.bool b] := by
  have := Valid_fn v ps M hv h64
  rw [hr] at this
  exact this
theorem ValidR_is {v : Value} {ps : List Pt} {b : Bool} {M : Mem} (hv : Pts M v ps) (h64 : i64P ps) (hr : validB ps = b) : FnP Try.prog 32 [v] M [.bool b] := by
  have := ValidR_fn v ps M hv h64
  rw [validR_eq, hr] at this
  exact this
theorem AreaR_is {v : Value} {ps : List Pt} {n : Int} {M : Mem} (hv : Pts M v ps) (h64 : i64P ps) (hV : validB ps = true) (hr : areaB ps = n) : FnP Try.prog 39 [v] M [.int .i64 n, .int .i64 0] := by
  have := AreaR_fn v ps M hv h64
  rw [if_pos hV, hr] at this
  exact this
theorem AreaR_no {v : Value} {ps : List Pt} {M : Mem} (hv : Pts M v ps) (h64 : i64P ps) (hV : validB ps = false) : FnP Try.prog 39 [v] M [.int .i64 0, .int .i64 1] := by
  have := AreaR_fn v ps M hv h64
  rw [if_neg (by rw [hV]; exact Bool.false_ne_true)] at this
  exact this
theorem beqb_no {a : Bool} {A : Prop} (h : (a == a) = false) : A := by cases a <;> cases h
theorem beqp_no {a b : Int} {A : Prop} (h : (a == a && b == b) = false) : A := by simp at h
theorem beq_no {a : Int} {A : Prop} (h : (a == a) = false) : A := by simp at h
end Go.Proofs.Ytaobaeiohjgdcaa
namespace Go.Proofs.Ytaobaeiohjgdcaa.hullMatchesReference
open Go Go.V Go.RowKit
set_option maxRecDepth 20000 in
set_option maxHeartbeats 2000000 in
theorem law_fn (v0 v1 : Value) (l p : List Pt) (x y : Int) (M : Mem) (h0 : Pts M v0 l) (g0 : i64P l) (h1 : Pts M v1 p) (h64 : i64P p) (hx : i64r x) (hy : i64r y) : V.Fn Try.prog 6 [v0, v1, .agg #[.int .i64 x, .int .i64 y]] M fun rs _ => rs = [.bool true] := by
  obtain ⟨ad, c, rfl⟩ := h0.shape
  obtain ⟨bd, d, rfl⟩ := h1.shape
  obtain ⟨⟨q, e⟩, hr⟩ : ∃ r, hullB l = r := ⟨_, rfl⟩
  obtain ⟨b, hV⟩ : ∃ b, validB p = b := ⟨_, rfl⟩
  obtain ⟨⟨b2, e2⟩, hH⟩ : ∃ r, hasE p (x, y) = r := ⟨_, rfl⟩
  refine Fn.of_vc cxOK Try.func6 rfl rfl rfl ?_
  repeat (first | refine VIf.tt ?_ | refine VIf.ff ?_)
  refine VFn.mk _ (head03_fn M) ?_
  rintro rs M1 hM1 rfl
  repeat (first | refine VIf.tt ?_ | refine VIf.ff ?_)
  refine VFn.p (Few03_fn _ l M1 (h0.le hM1)) ?_
  repeat (first | refine VIf.tt ?_ | refine VIf.ff ?_)
  refine VIf.mk (fun _ => ?_) (fun _ => ?_)
  · repeat (first | refine VIf.tt ?_ | refine VIf.ff ?_)
    refine VIf.mk (fun _ => ?_) (fun _ => ?_)
    · repeat (first | refine VIf.tt ?_ | refine VIf.ff ?_)
      exact VFact.mk rfl trivial
    repeat (first | refine VIf.tt ?_ | refine VIf.ff ?_)
    refine VFn.p (Few03_fn _ p M1 (h1.le hM1)) ?_
    repeat (first | refine VIf.tt ?_ | refine VIf.ff ?_)
    refine VIf.mk (fun _ => ?_) (fun _ => ?_)
    · repeat (first | refine VIf.tt ?_ | refine VIf.ff ?_)
      exact VFact.mk rfl trivial
    repeat (first | refine VIf.tt ?_ | refine VIf.ff ?_)
    refine VFn.mk _ (Hull_is (h0.le hM1) g0 hr) ?_
    rintro rs M2 hM2 ⟨u, rfl, hu⟩
    have m2 := hM1.trans hM2
    repeat (first | refine VIf.tt ?_ | refine VIf.ff ?_)
    refine VFn.mk _ (HullR_is (h0.le m2) hr) ?_
    rintro rs M3 hM3 ⟨w, rfl, hw⟩
    have m3 := m2.trans hM3
    repeat (first | refine VIf.tt ?_ | refine VIf.ff ?_)
    refine VFn.p (Same_is (hu.le hM3) hw) ?_
    repeat (first | refine VIf.tt ?_ | refine VIf.ff ?_)
    refine VIf.mk (fun _ => ?_) (fun h => beq_no h)
    repeat (first | refine VIf.tt ?_ | refine VIf.ff ?_)
    refine VFn.mk _ (V_is (h1.le m3) h64 hV) ?_
    rintro rs M4 hM4 rfl
    have m4 := m3.trans hM4
    repeat (first | refine VIf.tt ?_ | refine VIf.ff ?_)
    refine VFn.p (ValidR_is (h1.le m4) h64 hV) ?_
    repeat (first | refine VIf.tt ?_ | refine VIf.ff ?_)
    refine VFn.mk _ (hasB_is (x := (x, y)) (h1.le m4) h64 ⟨hx, hy⟩ hH) ?_
    rintro rs M5 hM5 rfl
    have m5 := m4.trans hM5
    repeat (first | refine VIf.tt ?_ | refine VIf.ff ?_)
    refine VFn.p (HasR_is (x := (x, y)) (h1.le m5) h64 hH) ?_
    repeat (first | refine VIf.tt ?_ | refine VIf.ff ?_)
    refine VIf.mk (fun _ => ?_) (fun h => beqb_no h)
    repeat (first | refine VIf.tt ?_ | refine VIf.ff ?_)
    refine VIf.mk (fun _ => ?_) (fun h => beqb_no h)
    cases b with
    | true =>
      obtain ⟨lo, hlo⟩ : ∃ r, boxLo p = r := ⟨_, rfl⟩
      obtain ⟨hi, hhi⟩ : ∃ r, boxHi p = r := ⟨_, rfl⟩
      obtain ⟨o, ho⟩ : ∃ r, eightP p = r := ⟨_, rfl⟩
      obtain ⟨n, hn⟩ : ∃ r, areaB p = r := ⟨_, rfl⟩
      repeat (first | refine VIf.tt ?_ | refine VIf.ff ?_)
      refine VFn.mk _ (Box_is (h1.le m5) h64 hV hlo hhi) ?_
      rintro rs M6 hM6 rfl
      have m6 := m5.trans hM6
      repeat (first | refine VIf.tt ?_ | refine VIf.ff ?_)
      refine VFn.mk _ (BoxR_is (h1.le m6) h64 hV hlo hhi) ?_
      rintro rs M7 hM7 rfl
      have m7 := m6.trans hM7
      repeat (first | refine VIf.tt ?_ | refine VIf.ff ?_)
      refine VIf.mk (fun _ => ?_) (fun h => beq_no h)
      repeat (first | refine VIf.tt ?_ | refine VIf.ff ?_)
      refine VIf.mk (fun _ => ?_) (fun h => beqp_no h)
      repeat (first | refine VIf.tt ?_ | refine VIf.ff ?_)
      refine VIf.mk (fun _ => ?_) (fun h => beqp_no h)
      repeat (first | refine VIf.tt ?_ | refine VIf.ff ?_)
      refine VFn.mk _ (Eight_is (h1.le m7) h64 hV ho) ?_
      rintro rs M8 hM8 ⟨u2, rfl, hu2⟩
      have m8 := m7.trans hM8
      repeat (first | refine VIf.tt ?_ | refine VIf.ff ?_)
      refine VFn.mk _ (EightR_is (h1.le m8) h64 hV ho) ?_
      rintro rs M9 hM9 ⟨w2, rfl, hw2⟩
      have m9 := m8.trans hM9
      repeat (first | refine VIf.tt ?_ | refine VIf.ff ?_)
      refine VFn.p (Same_is (hu2.le hM9) hw2) ?_
      repeat (first | refine VIf.tt ?_ | refine VIf.ff ?_)
      refine VFn.mk _ (Area_is (h1.le m9) h64 hV hn) ?_
      rintro rs M10 hM10 rfl
      have m10 := m9.trans hM10
      repeat (first | refine VIf.tt ?_ | refine VIf.ff ?_)
      refine VFn.p (AreaR_is (h1.le m10) h64 hV hn) ?_
      repeat (first | refine VIf.tt ?_ | refine VIf.ff ?_)
      refine VIf.mk (fun _ => ?_) (fun h => beq_no h)
      repeat (first | refine VIf.tt ?_ | refine VIf.ff ?_)
      exact VFact.mk rfl trivial
    | false =>
      repeat (first | refine VIf.tt ?_ | refine VIf.ff ?_)
      refine VFn.mk _ (Box_no (h1.le m5) h64 hV) ?_
      rintro rs M6 hM6 rfl
      have m6 := m5.trans hM6
      repeat (first | refine VIf.tt ?_ | refine VIf.ff ?_)
      refine VFn.mk _ (BoxR_no (h1.le m6) h64 hV) ?_
      rintro rs M7 hM7 rfl
      have m7 := m6.trans hM7
      repeat (first | refine VIf.tt ?_ | refine VIf.ff ?_)
      refine VIf.mk (fun _ => ?_) (fun h => beq_no h)
      repeat (first | refine VIf.tt ?_ | refine VIf.ff ?_)
      refine VFn.mk _ (Eight_no (h1.le m7) h64 hV) ?_
      rintro rs M8 hM8 rfl
      have m8 := m7.trans hM8
      repeat (first | refine VIf.tt ?_ | refine VIf.ff ?_)
      refine VFn.mk _ (EightR_no (h1.le m8) h64 hV) ?_
      rintro rs M9 hM9 rfl
      have m9 := m8.trans hM9
      repeat (first | refine VIf.tt ?_ | refine VIf.ff ?_)
      refine VFn.p (Same_is (Pts.nil _) (Pts.nil _)) ?_
      repeat (first | refine VIf.tt ?_ | refine VIf.ff ?_)
      refine VFn.mk _ (Area_no (h1.le m9) h64 hV) ?_
      rintro rs M10 hM10 rfl
      have m10 := m9.trans hM10
      repeat (first | refine VIf.tt ?_ | refine VIf.ff ?_)
      refine VFn.p (AreaR_no (h1.le m10) h64 hV) ?_
      repeat (first | refine VIf.tt ?_ | refine VIf.ff ?_)
      exact VFact.mk rfl trivial
  repeat (first | refine VIf.tt ?_ | refine VIf.ff ?_)
  refine VFn.p (Few03_fn _ p M1 (h1.le hM1)) ?_
  repeat (first | refine VIf.tt ?_ | refine VIf.ff ?_)
  refine VIf.mk (fun _ => ?_) (fun _ => ?_)
  · repeat (first | refine VIf.tt ?_ | refine VIf.ff ?_)
    exact VFact.mk rfl trivial
  repeat (first | refine VIf.tt ?_ | refine VIf.ff ?_)
  refine VFn.mk _ (Hull_is (h0.le hM1) g0 hr) ?_
  rintro rs M2 hM2 ⟨u, rfl, hu⟩
  have m2 := hM1.trans hM2
  repeat (first | refine VIf.tt ?_ | refine VIf.ff ?_)
  refine VFn.mk _ (HullR_is (h0.le m2) hr) ?_
  rintro rs M3 hM3 ⟨w, rfl, hw⟩
  have m3 := m2.trans hM3
  repeat (first | refine VIf.tt ?_ | refine VIf.ff ?_)
  refine VFn.p (Same_is (hu.le hM3) hw) ?_
  repeat (first | refine VIf.tt ?_ | refine VIf.ff ?_)
  refine VIf.mk (fun _ => ?_) (fun h => beq_no h)
  repeat (first | refine VIf.tt ?_ | refine VIf.ff ?_)
  refine VFn.mk _ (V_is (h1.le m3) h64 hV) ?_
  rintro rs M4 hM4 rfl
  have m4 := m3.trans hM4
  repeat (first | refine VIf.tt ?_ | refine VIf.ff ?_)
  refine VFn.p (ValidR_is (h1.le m4) h64 hV) ?_
  repeat (first | refine VIf.tt ?_ | refine VIf.ff ?_)
  refine VFn.mk _ (hasB_is (x := (x, y)) (h1.le m4) h64 ⟨hx, hy⟩ hH) ?_
  rintro rs M5 hM5 rfl
  have m5 := m4.trans hM5
  repeat (first | refine VIf.tt ?_ | refine VIf.ff ?_)
  refine VFn.p (HasR_is (x := (x, y)) (h1.le m5) h64 hH) ?_
  repeat (first | refine VIf.tt ?_ | refine VIf.ff ?_)
  refine VIf.mk (fun _ => ?_) (fun h => beqb_no h)
  repeat (first | refine VIf.tt ?_ | refine VIf.ff ?_)
  refine VIf.mk (fun _ => ?_) (fun h => beqb_no h)
  cases b with
  | true =>
    obtain ⟨lo, hlo⟩ : ∃ r, boxLo p = r := ⟨_, rfl⟩
    obtain ⟨hi, hhi⟩ : ∃ r, boxHi p = r := ⟨_, rfl⟩
    obtain ⟨o, ho⟩ : ∃ r, eightP p = r := ⟨_, rfl⟩
    obtain ⟨n, hn⟩ : ∃ r, areaB p = r := ⟨_, rfl⟩
    repeat (first | refine VIf.tt ?_ | refine VIf.ff ?_)
    refine VFn.mk _ (Box_is (h1.le m5) h64 hV hlo hhi) ?_
    rintro rs M6 hM6 rfl
    have m6 := m5.trans hM6
    repeat (first | refine VIf.tt ?_ | refine VIf.ff ?_)
    refine VFn.mk _ (BoxR_is (h1.le m6) h64 hV hlo hhi) ?_
    rintro rs M7 hM7 rfl
    have m7 := m6.trans hM7
    repeat (first | refine VIf.tt ?_ | refine VIf.ff ?_)
    refine VIf.mk (fun _ => ?_) (fun h => beq_no h)
    repeat (first | refine VIf.tt ?_ | refine VIf.ff ?_)
    refine VIf.mk (fun _ => ?_) (fun h => beqp_no h)
    repeat (first | refine VIf.tt ?_ | refine VIf.ff ?_)
    refine VIf.mk (fun _ => ?_) (fun h => beqp_no h)
    repeat (first | refine VIf.tt ?_ | refine VIf.ff ?_)
    refine VFn.mk _ (Eight_is (h1.le m7) h64 hV ho) ?_
    rintro rs M8 hM8 ⟨u2, rfl, hu2⟩
    have m8 := m7.trans hM8
    repeat (first | refine VIf.tt ?_ | refine VIf.ff ?_)
    refine VFn.mk _ (EightR_is (h1.le m8) h64 hV ho) ?_
    rintro rs M9 hM9 ⟨w2, rfl, hw2⟩
    have m9 := m8.trans hM9
    repeat (first | refine VIf.tt ?_ | refine VIf.ff ?_)
    refine VFn.p (Same_is (hu2.le hM9) hw2) ?_
    repeat (first | refine VIf.tt ?_ | refine VIf.ff ?_)
    refine VFn.mk _ (Area_is (h1.le m9) h64 hV hn) ?_
    rintro rs M10 hM10 rfl
    have m10 := m9.trans hM10
    repeat (first | refine VIf.tt ?_ | refine VIf.ff ?_)
    refine VFn.p (AreaR_is (h1.le m10) h64 hV hn) ?_
    repeat (first | refine VIf.tt ?_ | refine VIf.ff ?_)
    refine VIf.mk (fun _ => ?_) (fun h => beq_no h)
    repeat (first | refine VIf.tt ?_ | refine VIf.ff ?_)
    exact VFact.mk rfl trivial
  | false =>
    repeat (first | refine VIf.tt ?_ | refine VIf.ff ?_)
    refine VFn.mk _ (Box_no (h1.le m5) h64 hV) ?_
    rintro rs M6 hM6 rfl
    have m6 := m5.trans hM6
    repeat (first | refine VIf.tt ?_ | refine VIf.ff ?_)
    refine VFn.mk _ (BoxR_no (h1.le m6) h64 hV) ?_
    rintro rs M7 hM7 rfl
    have m7 := m6.trans hM7
    repeat (first | refine VIf.tt ?_ | refine VIf.ff ?_)
    refine VIf.mk (fun _ => ?_) (fun h => beq_no h)
    repeat (first | refine VIf.tt ?_ | refine VIf.ff ?_)
    refine VFn.mk _ (Eight_no (h1.le m7) h64 hV) ?_
    rintro rs M8 hM8 rfl
    have m8 := m7.trans hM8
    repeat (first | refine VIf.tt ?_ | refine VIf.ff ?_)
    refine VFn.mk _ (EightR_no (h1.le m8) h64 hV) ?_
    rintro rs M9 hM9 rfl
    have m9 := m8.trans hM9
    repeat (first | refine VIf.tt ?_ | refine VIf.ff ?_)
    refine VFn.p (Same_is (Pts.nil _) (Pts.nil _)) ?_
    repeat (first | refine VIf.tt ?_ | refine VIf.ff ?_)
    refine VFn.mk _ (Area_no (h1.le m9) h64 hV) ?_
    rintro rs M10 hM10 rfl
    have m10 := m9.trans hM10
    repeat (first | refine VIf.tt ?_ | refine VIf.ff ?_)
    refine VFn.p (AreaR_no (h1.le m10) h64 hV) ?_
    repeat (first | refine VIf.tt ?_ | refine VIf.ff ?_)
    exact VFact.mk rfl trivial
end Go.Proofs.Ytaobaeiohjgdcaa.hullMatchesReference

/- What a hull's result says; more contracts with the value given. -/
namespace Go.Proofs.Ytaobaeiohjgdcaa
open Go Go.V Go.RowKit
theorem hull_split {l p : List Pt} {e : Int} (hr : hullB l = (p, e)) : (e = 0 ∧ Hl l p ∧ validB p = true ∧ l.all placeB = true ∧ l.length ≤ 4000 ∧ p.length ≤ 64) ∨ (e ≠ 0 ∧ p = []) := by
  unfold hullB at hr
  split at hr
  · cases hr; exact .inr ⟨by decide, rfl⟩
  split at hr
  · cases hr; exact .inr ⟨by decide, rfl⟩
  split at hr
  · cases hr; exact .inr ⟨by decide, rfl⟩
  · rename_i h1 h2 h3
    cases hr
    have hne : l ≠ [] := fun h => h2 (.inl h)
    have hall : l.all placeB = true := by
      cases h : l.all placeB with
      | true => rfl
      | false => exact absurd (.inr h) h2
    have hh := around_hl hne
    exact .inl ⟨rfl, hh, hh.valid (fun x hx => List.all_eq_true.1 hall x hx) (by omega), hall, by omega, by omega⟩
theorem place_C {x : Pt} (h : placeB x = true) : isC x.1 ∧ isC x.2 := all_isC (l := [x]) (by simp [h]) x (by simp)
theorem place_64 {x : Pt} (h : placeB x = true) : i64r x.1 ∧ i64r x.2 := by
  have := place_C h
  unfold isC at this
  unfold i64r
  omega
theorem hasE_is {p : List Pt} {x : Pt} (hV : validB p = true) (hP : placeB x = true) {b : Bool} (h : hasB p x = b) : hasE p x = (b, 0) := by
  unfold hasE
  rw [hV, hP, h]; rfl
theorem has03_is {v : Value} {ps : List Pt} {x : Pt} {M : Mem} (hv : Pts M v ps) (hx : x ∈ ps) : V.Fn Try.prog 41 [v, ptv x] M fun rs _ => rs = [.bool true] := by
  have := has03_fn v ps x M hv
  rw [List.contains_iff_mem.2 hx] at this
  exact this
theorem Inside_is {v : Value} {ps : List Pt} {x : Pt} {b : Bool} {M : Mem} (hv : Pts M v ps) (hV : validB ps = true) (hP : placeB x = true) (hr : hasB ps x = b) : FnP Try.prog 40 [v, ptv x] M [.bool b] := by
  have := Inside_fn v ps x.1 x.2 M hv (allC_valid hV) (place_C hP).1 (place_C hP).2
  rw [show ((x.1, x.2) : Pt) = x from rfl, hr] at this
  exact this
theorem Place_is {x : Pt} {b : Bool} {M : Mem} (hr : placeB x = b) : FnP Try.prog 23 [ptv x] M [.bool b] := by
  have := Place_fn x.1 x.2 M
  rw [show (isCb x.1 && isCb x.2) = placeB x from rfl, hr] at this
  exact this
theorem Few_is {v : Value} {ps : List Pt} {M : Mem} {b : Bool} (hv : Pts M v ps) (hr : decide (ps.length ≤ 80) = b) : FnP Try.prog 18 [v] M [.bool b] := by
  have := Few03_fn v ps M hv
  rw [hr] at this
  exact this
end Go.Proofs.Ytaobaeiohjgdcaa

/- HullLeast: a hull is a polygon that has all its places, its corners are some of them, and any polygon that has all of them has its corners. No conditions beyond the statement's own. -/
namespace Go.Proofs.Ytaobaeiohjgdcaa.hullLeast
open Go Go.V Go.RowKit
set_option maxRecDepth 20000 in
set_option maxHeartbeats 2000000 in
theorem law_fn (v0 v1 : Value) (l q : List Pt) (M : Mem) (h0 : Pts M v0 l) (g0 : i64P l) (h1 : Pts M v1 q) (h64 : i64P q) : V.Fn Try.prog 7 [v0, v1] M fun rs _ => rs = [.bool true] := by
  obtain ⟨ad, c, rfl⟩ := h0.shape
  obtain ⟨bd, d, rfl⟩ := h1.shape
  obtain ⟨_, hm0, hrd0⟩ := h0.cellsOf
  unfold maxLen at hm0
  obtain ⟨⟨p, e⟩, hr⟩ : ∃ r, hullB l = r := ⟨_, rfl⟩
  obtain ⟨bq, hVq⟩ : ∃ b, validB q = b := ⟨_, rfl⟩
  refine Fn.of_vc cxOK Try.func7 rfl rfl rfl ?_
  repeat (first | refine VIf.tt ?_ | refine VIf.ff ?_)
  refine VFn.mk _ (head03_fn M) ?_
  rintro rs M1 hM1 rfl
  repeat (first | refine VIf.tt ?_ | refine VIf.ff ?_)
  refine VFn.p (Few03_fn _ l M1 (h0.le hM1)) ?_
  repeat (first | refine VIf.tt ?_ | refine VIf.ff ?_)
  refine VIf.mk (fun _ => ?_) (fun _ => ?_)
  · repeat (first | refine VIf.tt ?_ | refine VIf.ff ?_)
    exact VFact.mk rfl trivial
  repeat (first | refine VIf.tt ?_ | refine VIf.ff ?_)
  refine VFn.p (Few03_fn _ q M1 (h1.le hM1)) ?_
  repeat (first | refine VIf.tt ?_ | refine VIf.ff ?_)
  refine VIf.mk (fun _ => ?_) (fun _ => ?_)
  · repeat (first | refine VIf.tt ?_ | refine VIf.ff ?_)
    exact VFact.mk rfl trivial
  repeat (first | refine VIf.tt ?_ | refine VIf.ff ?_)
  refine VFn.mk _ (Hull_is (h0.le hM1) g0 hr) ?_
  rintro rs M2 hM2 ⟨u, rfl, hu⟩
  have m2 := hM1.trans hM2
  obtain ⟨ud, uc, rfl⟩ := hu.shape
  rcases hull_split hr with ⟨rfl, hh, hV, hall, hl4, hp64⟩ | ⟨he, rfl⟩
  rotate_left
  · repeat (first | refine VIf.tt ?_ | refine VIf.ff ?_)
    refine VIf.mk (fun _ => ?_) (fun h => absurd (bne_eq_false_iff_eq.1 h) he)
    repeat (first | refine VIf.tt ?_ | refine VIf.ff ?_)
    exact VFact.mk rfl trivial
  have hP : ∀ x ∈ l, placeB x = true := fun x hx => List.all_eq_true.1 hall x hx
  obtain ⟨_, hmu, hrdu⟩ := hu.cellsOf
  repeat (first | refine VIf.tt ?_ | refine VIf.ff ?_)
  refine VFn.p (ValidR_is (h1.le m2) h64 hVq) ?_
  repeat (first | refine VIf.tt ?_ | refine VIf.ff ?_)
  refine VCode.loop cxOK (Nat × Mem × Bool)
    (fun s => ⟨[(0, .v (.slice ad l.length c)), (1, .v (.slice bd q.length d)), (5, .v (.bool true)), (6, .v (.slice ud p.length uc)), (8, .v (.bool s.2.2)), (42, .v (.slice ad l.length c)), (43, .v (.int .i64 l.length)), (44, .v (.int .i64 s.1))], [], 0, s.2.1, 102, ⟨fun _ => none, none, fun _ => none⟩⟩)
    (fun s => M2.le s.2.1 ∧ s.1 ≤ l.length ∧ (s.2.2 = true → bq = true ∧ ∀ j, j < s.1 → hasB q (gp l j) = true)) (fun s => l.length - s.1) (0, M2, bq) ⟨Mem.le_refl _, Nat.zero_le _, fun h => ⟨h, fun j hj => by simp only at hj; omega⟩⟩ (Wk.mk' id (by repeat' constructor) (by repeat' constructor) (injOK_id _) rfl rfl rfl) ?_
  rintro ⟨k, M3, al⟩ ⟨m3', hk, hal⟩ m
  have m3' : M2.le M3 := m3'
  have m3 := m2.trans m3'
  have hk : k ≤ l.length := hk
  have hal : al = true → bq = true ∧ ∀ j, j < k → hasB q (gp l j) = true := hal
  repeat (first | refine VIf.tt ?_ | refine VIf.ff ?_)
  refine VIf.mk (fun hlt => ?_) (fun hge => ?_)
  · have hlt : k < l.length := lt_of_dec hlt
    have hx := gp_mem hlt
    obtain ⟨ad1, e1, r1⟩ := hrd0 M3 m3 k hlt
    repeat (first | refine VIf.tt ?_ | refine VIf.ff ?_)
    refine VIdx.mk ad1 k e1 rfl hlt ?_
    repeat (first | refine VIf.tt ?_ | refine VIf.ff ?_)
    refine VReads.mk [.int .i64 (gp l k).1, .int .i64 (gp l k).2] rfl r1 ?_
    repeat (first | refine VIf.tt ?_ | refine VIf.ff ?_)
    refine VFn.mk _ (hasB_is (x := gp l k) (hu.le m3') (i64P_valid hV) (place_64 (hP _ hx)) (hasE_is hV (hP _ hx) (hh.has hx))) ?_
    rintro rs M4 hM4 rfl
    have m4' := m3'.trans hM4
    repeat (first | refine VIf.tt ?_ | refine VIf.ff ?_)
    refine VIf.mk (fun ha => ?_) (fun ha => ?_)
    · obtain ⟨a1, a2⟩ := hal ha
      subst a1
      obtain ⟨b, hb⟩ : ∃ b, hasB q (gp l k) = b := ⟨_, rfl⟩
      repeat (first | refine VIf.tt ?_ | refine VIf.ff ?_)
      refine VFn.p (Inside_is (x := gp l k) (h1.le (m2.trans m4')) hVq (hP _ hx) hb) ?_
      repeat (first | refine VIf.tt ?_ | refine VIf.ff ?_)
      refine VArith.ok (by first | omega | (simp only; omega)) (by first | omega | (simp only; omega)) ?_
      exact ⟨(k + 1, M4, b), ⟨m4', hlt, fun h => ⟨rfl, stepI a2 (hb.trans h)⟩⟩, (by first | omega | (simp only; omega)), (Wk.mk' id (by repeat' constructor) (by repeat' constructor) (injOK_id _) rfl rfl rfl)⟩
    · repeat (first | refine VIf.tt ?_ | refine VIf.ff ?_)
      refine VArith.ok (by first | omega | (simp only; omega)) (by first | omega | (simp only; omega)) ?_
      exact ⟨(k + 1, M4, false), ⟨m4', hlt, fun h => Bool.noConfusion h⟩, (by first | omega | (simp only; omega)), (Wk.mk' id (by repeat' constructor) (by repeat' constructor) (injOK_id _) rfl rfl rfl)⟩
  · have : k = l.length := by have := ge_of_dec hge; omega
    subst this
    have hin : al = true → bq = true ∧ ∀ x ∈ l, hasB q x = true := fun h => ⟨(hal h).1, fun x hx => by
      obtain ⟨j, hj, rfl⟩ := mem_gp hx
      exact (hal h).2 j hj⟩
    repeat (first | refine VIf.tt ?_ | refine VIf.ff ?_)
    refine VCode.loop cxOK (Nat × Mem)
      (fun s => ⟨[(0, .v (.slice ad l.length c)), (1, .v (.slice bd q.length d)), (5, .v (.bool true)), (6, .v (.slice ud p.length uc)), (8, .v (.bool al)), (69, .v (.slice ud p.length uc)), (70, .v (.int .i64 p.length)), (71, .v (.int .i64 s.1))], [], 0, s.2, 102, ⟨fun _ => none, none, fun _ => none⟩⟩)
      (fun s => M2.le s.2 ∧ s.1 ≤ p.length) (fun s => p.length - s.1) (0, M3) ⟨m3', Nat.zero_le _⟩ (Wk.mk' id (by repeat' constructor) (by repeat' constructor) (injOK_id _) rfl rfl rfl) ?_
    rintro ⟨k, M4⟩ ⟨m4', hk⟩ m
    have m4' : M2.le M4 := m4'
    have hk : k ≤ p.length := hk
    have m4 := m2.trans m4'
    repeat (first | refine VIf.tt ?_ | refine VIf.ff ?_)
    refine VIf.mk (fun hlt => ?_) (fun hge => ?_)
    · have hlt : k < p.length := lt_of_dec hlt
      have hx := gp_mem hlt
      have hxl := hh.sub _ hx
      obtain ⟨ad1, e1, r1⟩ := hrdu M4 m4' k hlt
      repeat (first | refine VIf.tt ?_ | refine VIf.ff ?_)
      refine VIdx.mk ad1 k e1 rfl hlt ?_
      repeat (first | refine VIf.tt ?_ | refine VIf.ff ?_)
      refine VReads.mk [.int .i64 (gp p k).1, .int .i64 (gp p k).2] rfl r1 ?_
      repeat (first | refine VIf.tt ?_ | refine VIf.ff ?_)
      refine VFn.mk _ (has03_is (x := gp p k) (h0.le m4) hxl) ?_
      rintro rs M5 hM5 rfl
      have m5' := m4'.trans hM5
      repeat (first | refine VIf.tt ?_ | refine VIf.ff ?_)
      refine VIf.mk (fun ha => ?_) (fun ha => ?_)
      · obtain ⟨a1, a2⟩ := hin ha
        subst a1
        repeat (first | refine VIf.tt ?_ | refine VIf.ff ?_)
        refine VFn.mk _ (hasB_is (x := gp p k) (h1.le (m2.trans m5')) h64 (place_64 (hP _ hxl)) (hasE_is hVq (hP _ hxl) (a2 _ hxl))) ?_
        rintro rs M6 hM6 rfl
        repeat (first | refine VIf.tt ?_ | refine VIf.ff ?_)
        refine VArith.ok (by first | omega | (simp only; omega)) (by first | omega | (simp only; omega)) ?_
        exact ⟨(k + 1, M6), ⟨m5'.trans hM6, hlt⟩, (by first | omega | (simp only; omega)), (Wk.mk' id (by repeat' constructor) (by repeat' constructor) (injOK_id _) rfl rfl rfl)⟩
      · repeat (first | refine VIf.tt ?_ | refine VIf.ff ?_)
        refine VArith.ok (by first | omega | (simp only; omega)) (by first | omega | (simp only; omega)) ?_
        exact ⟨(k + 1, M5), ⟨m5', hlt⟩, (by first | omega | (simp only; omega)), (Wk.mk' id (by repeat' constructor) (by repeat' constructor) (injOK_id _) rfl rfl rfl)⟩
    · repeat (first | refine VIf.tt ?_ | refine VIf.ff ?_)
      refine VFn.mk _ (V_is (hu.le m4') (i64P_valid hV) hV) ?_
      rintro rs M5 hM5 rfl
      repeat (first | refine VIf.tt ?_ | refine VIf.ff ?_)
      exact VFact.mk rfl trivial
end Go.Proofs.Ytaobaeiohjgdcaa.hullLeast

namespace Go.Proofs.Ytaobaeiohjgdcaa.hullLeast
open Go Go.V Go.RowKit Go.ChangeShapes Go.WideShapes Go.ChangeAt
set_option linter.unusedVariables false
set_option maxRecDepth 100000 in
theorem lifted (os : Os) (started : os.Started) (H : Type) (enc : TypeId × Value → H) :
    ReturnsInHanded {} Try.checked os 7 .any (Rows.hullLeastSpec.pre6 enc Try.prog Try.f7 Rows.hullLeastRow.domain false) (Rows.hullLeastSpec.post enc Try.prog Try.f7 false true false false) := by
  refine returnsInHanded_of_change (C := Try.checked) own started (by kernel_rfl) Try.func7
    (ChangeSpec.witness6 (enc := enc) (C := Try.checked) false ⟨#[], #[.slice none 0 0, .slice none 0 0], []⟩ 8 (by kernel_rfl) (by kernel_rfl) (by kernel_rfl) (by kernel_rfl)) ?_
  intro W base args ds gs before hval0 hW hcnd _
  have hval : ∀ (j : Nat) t v, Try.f7.params[j]? = some t → args[j]? = some v → Value.okWide Try.prog W .any base t v := hval0
  have hW' := hW
  obtain ⟨p, q, hA0, hV, rfl, hfz, hnd⟩ := hW
  have hA : DataW.TrodAll enc Try.prog W 0 (fun _ => true) true Try.f7.params.toList args.toList ds p := hA0
  have hA1 := hA
  rw [Try.params7] at hA hval
  obtain ⟨v0, vs0, d0, ds0, p0, q0, hargs, rfl, rfl, h0, r0⟩ := trodAll_cons hA
  obtain ⟨v1, vs1, d1, ds1, p1, q1, rfl, rfl, rfl, h1, r1⟩ := trodAll_cons r0
  obtain ⟨rfl, rfl, rfl⟩ := trodAll_nil r1
  obtain rfl : args = #[v0, v1] := by cases args; simp_all
  obtain ⟨rfl, rfl⟩ := trodVars_none hV
  obtain ⟨a0, len0, cap0, rfl⟩ := okWide_slice Try.underlying24 (hval 0 24 v0 rfl rfl)
  obtain ⟨fuel0, t0⟩ := h0
  obtain ⟨l0, ⟨u0, e0, g0, k0⟩, _⟩ := opens24 _ _ _ t0
  simp [Value.cells] at e0
  subst e0
  obtain ⟨a1, len1, cap1, rfl⟩ := okWide_slice Try.underlying24 (hval 1 24 v1 rfl rfl)
  obtain ⟨fuel1, t1⟩ := h1
  obtain ⟨l1, ⟨u1, e1, g1, k1⟩, _⟩ := opens24 _ _ _ t1
  simp [Value.cells] at e1
  subst e1
  simp only [List.append_nil] at hW' hA1
  refine ((law_fn (.slice a0 len0 cap0) (.slice a1 len1 cap1) l0 l1 (memOf W) g0 k0 g1 k1).2 W (memOf_ok W)).mono fun e W' ⟨rs, M', he, hb, _, _, _, hr⟩ => ?_
  subst he hr
  exact ⟨_, rfl, post_of_below laid (by rw [Try.params7]; exact of_decide_eq_true (by kernel_rfl)) rfl hW' hA1
    (fun _ _ _ => (trodAll_cons_mk (shut_bool Try.underlying4 _) trodAll_mk0)) rfl rfl hb (ok_one (by kernel_rfl) rfl (okWide_bool_mk Try.underlying4 _))⟩

/-- The statement. -/
theorem proved : Rows.HullLeastSaid :=
  OpenClaim.holds_of_wide 7 Try.f7 rfl rfl rfl rfl rfl rfl rfl ⟨rfl, rfl, rfl, rfl, rfl⟩ rfl rfl rfl rfl rfl (by kernel_rfl) Try.func7 (by kernel_rfl)
    (of_decide_eq_true (by kernel_rfl)) (by unfold Func.isWrapper; first | (rw [if_pos (by decide +kernel)]; kernel_rfl) | (rw [if_neg (by decide +kernel)]; exact ⟨rfl, rfl⟩))
    (fun os started H enc _ => lifted os started H enc)
#print axioms proved
end Go.Proofs.Ytaobaeiohjgdcaa.hullLeast
