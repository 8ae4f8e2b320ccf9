/- HullFurther: with a further place a hull has no lesser area; it is the same hull exactly if it had the place; and, with at least three corners, the same area exactly then. No conditions beyond the statement's own. -/
import Derived.Test.YtaobaeiohjgdcaaHa7
set_option linter.unusedVariables false
set_option linter.unusedSimpArgs false
/- Contracts: the reference's Corners, Box, Octagon, Eight, Area. -/
namespace Go.Proofs.Ytaobaeiohjgdcaa
open Go Go.V Go.RowKit
theorem lin10 : linP 1 0 = fX := funext fun p => by unfold linP fX; omega
theorem lin01 : linP 0 1 = fY := funext fun p => by unfold linP fY; omega
theorem lin11 : linP 1 1 = fS := funext fun p => by unfold linP fS; omega
theorem lin1m : linP 1 (-1) = fD := funext fun p => by unfold linP fD; omega
theorem Corners03_fn (v : Value) (ps : List Pt) (M : Mem) (hv : Pts M v ps) (hn : 1 ≤ ps.length) (hC : allC ps) : FnP Try.prog 71 [v] M [ptv (boxLo ps), ptv (boxHi ps)] := by
  obtain ⟨ad, c, rfl⟩ := hv.shape
  have b1 := Bounds_fn _ ps 1 0 M hv hn hC (by omega) (by omega)
  have b2 := Bounds_fn _ ps 0 1 M hv hn hC (by omega) (by omega)
  rw [lin10] at b1
  rw [lin01] at b2
  refine Fn.of_vc cxOK Try.func71 rfl rfl rfl ?_
  repeat (first | refine VIf.tt ?_ | refine VIf.ff ?_)
  refine VFn.p b1 ?_
  repeat (first | refine VIf.tt ?_ | refine VIf.ff ?_)
  refine VFn.p b2 ?_
  repeat (first | refine VIf.tt ?_ | refine VIf.ff ?_)
  exact VFact.mk ⟨rfl, rfl⟩ trivial
theorem BoxR_fn (v : Value) (ps : List Pt) (M : Mem) (hv : Pts M v ps) (h64 : i64P ps) : V.Fn Try.prog 35 [v] M fun rs _ => rs = if validB ps = true then [ptv (boxLo ps), ptv (boxHi ps), .int .i64 0] else [pt 0 0, pt 0 0, .int .i64 1] := by
  obtain ⟨ad, c, rfl⟩ := hv.shape
  refine Fn.of_vc cxOK Try.func35 rfl rfl rfl ?_
  repeat (first | refine VIf.tt ?_ | refine VIf.ff ?_)
  refine VFn.p (ValidR_fn _ ps M hv h64) ?_
  rw [validR_eq]
  repeat (first | refine VIf.tt ?_ | refine VIf.ff ?_)
  refine VIf.mk (fun h => ?_) (fun h => ?_)
  · repeat (first | refine VIf.tt ?_ | refine VIf.ff ?_)
    refine VFact.mk ?_ trivial
    rw [bn1 h]; rfl
  have hV := bn2 h
  repeat (first | refine VIf.tt ?_ | refine VIf.ff ?_)
  refine VFn.p (Corners03_fn _ ps M hv (len_one hV).1 (allC_valid hV)) ?_
  repeat (first | refine VIf.tt ?_ | refine VIf.ff ?_)
  refine VDraw.still [5, 6] (by kernel_rfl) ?_
  repeat (first | refine VIf.tt ?_ | refine VIf.ff ?_)
  refine VFzB.mk fun x1 B1 M1 hM1 h1 => ?_
  repeat (first | refine VIf.tt ?_ | refine VIf.ff ?_)
  refine VFzB.mk fun x2 B2 M2 hM2 h2 => ?_
  repeat (first | refine VIf.tt ?_ | refine VIf.ff ?_)
  refine VReads.mk [.int .i64 (boxLo ps).1, .int .i64 (boxLo ps).2] rfl (fun j v hj => cellAt (hM2 _ _ h1) j (by simpa using hj)) ?_
  repeat (first | refine VIf.tt ?_ | refine VIf.ff ?_)
  refine VReads.mk [.int .i64 (boxHi ps).1, .int .i64 (boxHi ps).2] rfl (fun j v hj => cellAt h2 j (by simpa using hj)) ?_
  repeat (first | refine VIf.tt ?_ | refine VIf.ff ?_)
  refine VFact.mk (Mem.le_refl _) ?_
  repeat (first | refine VIf.tt ?_ | refine VIf.ff ?_)
  refine VFact.mk (Mem.le_refl _) ?_
  repeat (first | refine VIf.tt ?_ | refine VIf.ff ?_)
  refine VFact.mk ?_ trivial
  rw [hV]; rfl
theorem Octagon_fn (v : Value) (ps : List Pt) (M : Mem) (hv : Pts M v ps) (hV : validB ps = true) : V.Fn Try.prog 74 [v] M fun rs M' => ∃ u, rs = [u] ∧ Pts M' u (eightP ps) := by
  obtain ⟨ad, c, rfl⟩ := hv.shape
  have hn := (len_one hV).1
  have hC := allC_valid hV
  have b1 := Bounds_fn _ ps 1 0 M hv hn hC (by omega) (by omega)
  have b2 := Bounds_fn _ ps 0 1 M hv hn hC (by omega) (by omega)
  have b3 := Bounds_fn _ ps 1 1 M hv hn hC (by omega) (by omega)
  have b4 := Bounds_fn _ ps 1 (-1) M hv hn hC (by omega) (by omega)
  rw [lin10] at b1
  rw [lin01] at b2
  rw [lin11] at b3
  rw [lin1m] at b4
  obtain ⟨bd, bi⟩ := b8_bd hV
  have hpl := (eight_spec hV).2.2.2.2.1
  have hh := (eight_spec hV).1
  obtain ⟨h1, h2, h3, h4, h5, h6, h7, h8, h9, h10, h11⟩ := bi
  have b1 : FnP Try.prog 103 _ M [.int .i64 (b8 ps).a, .int .i64 (b8 ps).b] := b1
  have b2 : FnP Try.prog 103 _ M [.int .i64 (b8 ps).c, .int .i64 (b8 ps).d] := b2
  have b3 : FnP Try.prog 103 _ M [.int .i64 (b8 ps).s, .int .i64 (b8 ps).t] := b3
  have b4 : FnP Try.prog 103 _ M [.int .i64 (b8 ps).u, .int .i64 (b8 ps).v] := b4
  generalize b8 ps = B at *
  refine Fn.of_vc cxOK Try.func74 rfl rfl rfl ?_
  repeat (first | refine VIf.tt ?_ | refine VIf.ff ?_)
  refine VFn.p b1 ?_
  repeat (first | refine VIf.tt ?_ | refine VIf.ff ?_)
  refine VFn.p b2 ?_
  repeat (first | refine VIf.tt ?_ | refine VIf.ff ?_)
  refine VFn.p b3 ?_
  repeat (first | refine VIf.tt ?_ | refine VIf.ff ?_)
  refine VFn.p b4 ?_
  repeat (first | refine VIf.tt ?_ | refine VIf.ff ?_)
  refine VArith.ok (by first | omega | (simp only; omega)) (by first | omega | (simp only; omega)) ?_
  repeat (first | refine VIf.tt ?_ | refine VIf.ff ?_)
  refine VArith.ok (by first | omega | (simp only; omega)) (by first | omega | (simp only; omega)) ?_
  repeat (first | refine VIf.tt ?_ | refine VIf.ff ?_)
  refine VArith.ok (by first | omega | (simp only; omega)) (by first | omega | (simp only; omega)) ?_
  repeat (first | refine VIf.tt ?_ | refine VIf.ff ?_)
  refine VArith.ok (by first | omega | (simp only; omega)) (by first | omega | (simp only; omega)) ?_
  repeat (first | refine VIf.tt ?_ | refine VIf.ff ?_)
  refine VArith.ok (by first | omega | (simp only; omega)) (by first | omega | (simp only; omega)) ?_
  repeat (first | refine VIf.tt ?_ | refine VIf.ff ?_)
  refine VArith.ok (by first | omega | (simp only; omega)) (by first | omega | (simp only; omega)) ?_
  repeat (first | refine VIf.tt ?_ | refine VIf.ff ?_)
  refine VArith.ok (by first | omega | (simp only; omega)) (by first | omega | (simp only; omega)) ?_
  repeat (first | refine VIf.tt ?_ | refine VIf.ff ?_)
  refine VArith.ok (by first | omega | (simp only; omega)) (by first | omega | (simp only; omega)) ?_
  repeat (first | refine VIf.tt ?_ | refine VIf.ff ?_)
  refine VFz.mk fun x B1 M2 hM2 hx => ?_
  have hx : Pts M2 x [(B.b, B.b - B.v), (B.b, B.t - B.b), (B.t - B.d, B.d), (B.d + B.u, B.d), (B.a, B.a - B.u), (B.a, B.s - B.a), (B.s - B.c, B.c), (B.c + B.v, B.c)] := hx
  have hmem : ∀ y, y ∈ [(B.b, B.b - B.v), (B.b, B.t - B.b), (B.t - B.d, B.d), (B.d + B.u, B.d), (B.a, B.a - B.u), (B.a, B.s - B.a), (B.s - B.c, B.c), (B.c + B.v, B.c)] ↔ y ∈ B.pts := fun y => by
    unfold B8.pts
    simp only [List.mem_cons, List.not_mem_nil, or_false]
    constructor <;> (rintro (h | h | h | h | h | h | h | h) <;> simp [h])
  repeat (first | refine VIf.tt ?_ | refine VIf.ff ?_)
  refine VFn.mk _ (Around_fn x _ (eightP ps) M2 hx (hh.congr hmem) (fun p hp => all_isC (List.all_eq_true.2 hpl) p ((hmem p).1 hp)) (by simp)) ?_
  rintro rs M3 hM3 ⟨u, rfl, hu⟩
  repeat (first | refine VIf.tt ?_ | refine VIf.ff ?_)
  exact VFact.mk ⟨u, rfl, hu⟩ trivial
theorem EightR_fn (v : Value) (ps : List Pt) (M : Mem) (hv : Pts M v ps) (h64 : i64P ps) : V.Fn Try.prog 37 [v] M fun rs M' => if validB ps = true then ∃ u, rs = [u, .int .i64 0] ∧ Pts M' u (eightP ps) else rs = [.slice none 0 0, .int .i64 1] := by
  refine Fn.of_vc cxOK Try.func37 rfl rfl rfl ?_
  repeat (first | refine VIf.tt ?_ | refine VIf.ff ?_)
  refine VFn.p (ValidR_fn _ ps M hv h64) ?_
  rw [validR_eq]
  repeat (first | refine VIf.tt ?_ | refine VIf.ff ?_)
  refine VIf.mk (fun h => ?_) (fun h => ?_)
  · repeat (first | refine VIf.tt ?_ | refine VIf.ff ?_)
    refine VFact.mk ?_ trivial
    show if _ then _ else _
    rw [bn1 h]; rfl
  have hV := bn2 h
  repeat (first | refine VIf.tt ?_ | refine VIf.ff ?_)
  refine VFn.mk _ (Octagon_fn _ ps M hv hV) ?_
  rintro rs M3 hM3 ⟨u, rfl, hu⟩
  repeat (first | refine VIf.tt ?_ | refine VIf.ff ?_)
  refine VFact.mk ?_ trivial
  show if _ then _ else _
  rw [if_pos hV]
  exact ⟨u, rfl, hu⟩
theorem AreaR_fn (v : Value) (ps : List Pt) (M : Mem) (hv : Pts M v ps) (h64 : i64P ps) : FnP Try.prog 39 [v] M (if validB ps = true then [.int .i64 (areaB ps), .int .i64 0] else [.int .i64 0, .int .i64 1]) := by
  obtain ⟨ad, c, rfl⟩ := hv.shape
  obtain ⟨_, hm, hrd⟩ := hv.cellsOf
  refine Fn.of_vc cxOK Try.func39 rfl rfl rfl ?_
  repeat (first | refine VIf.tt ?_ | refine VIf.ff ?_)
  refine VFn.p (ValidR_fn _ ps M hv h64) ?_
  rw [validR_eq]
  repeat (first | refine VIf.tt ?_ | refine VIf.ff ?_)
  refine VIf.mk (fun h => ?_) (fun h => ?_)
  · repeat (first | refine VIf.tt ?_ | refine VIf.ff ?_)
    refine VFact.mk ⟨?_, rfl⟩ trivial
    rw [bn1 h]; rfl
  have hV := bn2 h
  have hn := len_one hV
  have hC := allC_valid hV
  have a1 : areaS ps 1 = 0 := by
    unfold areaS sm sm
    rw [crossP_self]; rfl
  repeat (first | refine VIf.tt ?_ | refine VIf.ff ?_)
  refine VCode.loop cxOK (Nat × Int) (fun s => ⟨[(0, .v (.slice ad ps.length c)), (4, .v (.int .i64 s.2)), (5, .v (.int .i64 s.1))], [], 0, M, 32, ⟨fun _ => none, none, fun _ => none⟩⟩)
    (fun s => 1 ≤ s.1 ∧ s.1 ≤ ps.length ∧ s.2 = areaS ps s.1) (fun s => ps.length - s.1) (1, 0) ⟨Nat.le_refl _, hn.1, a1.symm⟩ (Wk.mk' id (by repeat' constructor) (by repeat' constructor) (injOK_id _) rfl rfl rfl) ?_
  rintro ⟨i, z⟩ ⟨hi1, hi, hz⟩ m
  have hi1 : 1 ≤ i := hi1
  have hi : i ≤ ps.length := hi
  have hz : z = areaS ps i := hz
  repeat (first | refine VIf.tt ?_ | refine VIf.ff ?_)
  refine VArith.ok (by first | omega | (simp only; omega)) (by first | omega | (simp only; omega)) ?_
  repeat (first | refine VIf.tt ?_ | refine VIf.ff ?_)
  refine VIf.mk (fun hlt => ?_) (fun hge => ?_)
  · have hlt : i + 1 < ps.length := by have := of_decide_eq_true hlt; omega
    obtain ⟨ad0, e0, r0⟩ := hrd M (Mem.le_refl _) 0 (by omega)
    obtain ⟨ad1, e1, r1⟩ := hrd M (Mem.le_refl _) i (by omega)
    obtain ⟨ad2, e2, r2⟩ := hrd M (Mem.le_refl _) (i + 1) hlt
    have c0 := hC 0 (by omega)
    have c1 := hC i (by omega)
    have c2 := hC (i + 1) hlt
    have bz := areaS_bd hC (k := i) (by omega)
    have bc := cross_bd c0 c1 c2
    unfold crossP at bc
    repeat (first | refine VIf.tt ?_ | refine VIf.ff ?_)
    refine VDraw.go (by kernel_rfl) ?_
    repeat (first | refine VIf.tt ?_ | refine VIf.ff ?_)
    refine VIdx.mk ad0 0 e0 rfl (by omega) ?_
    repeat (first | refine VIf.tt ?_ | refine VIf.ff ?_)
    refine VReads.mk [.int .i64 (gp ps 0).1, .int .i64 (gp ps 0).2] rfl r0 ?_
    repeat (first | refine VIf.tt ?_ | refine VIf.ff ?_)
    refine VIdx.mk ad1 i e1 rfl (by omega) ?_
    repeat (first | refine VIf.tt ?_ | refine VIf.ff ?_)
    refine VReads.mk [.int .i64 (gp ps i).1, .int .i64 (gp ps i).2] rfl r1 ?_
    repeat (first | refine VIf.tt ?_ | refine VIf.ff ?_)
    refine VArith.ok (by first | omega | (simp only; omega)) (by first | omega | (simp only; omega)) ?_
    repeat (first | refine VIf.tt ?_ | refine VIf.ff ?_)
    refine VIdx.mk ad2 (i + 1) e2 rfl hlt ?_
    repeat (first | refine VIf.tt ?_ | refine VIf.ff ?_)
    refine VReads.mk [.int .i64 (gp ps (i + 1)).1, .int .i64 (gp ps (i + 1)).2] rfl r2 ?_
    repeat (first | refine VIf.tt ?_ | refine VIf.ff ?_)
    refine VFn.p (Cross_fn _ _ _ _ _ _ _ c0.1 c0.2 c1.1 c1.2 c2.1 c2.2) ?_
    repeat (first | refine VIf.tt ?_ | refine VIf.ff ?_)
    refine VArith.ok (by first | omega | (simp only; omega)) (by first | omega | (simp only; omega)) ?_
    repeat (first | refine VIf.tt ?_ | refine VIf.ff ?_)
    refine VArith.ok (by first | omega | (simp only; omega)) (by first | omega | (simp only; omega)) ?_
    refine ⟨(i + 1, z + cross (gp ps 0).1 (gp ps 0).2 (gp ps i).1 (gp ps i).2 (gp ps (i + 1)).1 (gp ps (i + 1)).2), ⟨by simp only; omega, by simp only; omega, ?_⟩, (by first | omega | (simp only; omega)), (Wk.mk' id (by repeat' constructor) (by repeat' constructor) (injOK_id _) rfl rfl rfl)⟩
    rw [hz]
    unfold areaS
    simp only [sm, Nat.mod_eq_of_lt hlt]
    rfl
  · have hge : ps.length ≤ i + 1 := by have := of_decide_eq_false hge; omega
    have ez : z = areaB ps := by
      rw [hz]
      by_cases e : i = ps.length
      · subst e; rfl
      · have e' : ps.length = i + 1 := by omega
        unfold areaS areaB
        rw [e']
        simp only [sm, Nat.mod_self]
        rw [crossP_a]; omega
    repeat (first | refine VIf.tt ?_ | refine VIf.ff ?_)
    refine VFact.mk ⟨?_, rfl⟩ trivial
    rw [hV, ez]; rfl
end Go.Proofs.Ytaobaeiohjgdcaa

/- Contracts: the same, with the value given; the statements' examples. -/
namespace Go.Proofs.Ytaobaeiohjgdcaa
open Go Go.V Go.RowKit
theorem Hull_is {v : Value} {l p : List Pt} {e : Int} {M : Mem} (hv : Pts M v l) (h64 : i64P l) (hr : hullB l = (p, e)) : V.Fn Try.prog 29 [v] M fun rs M' => ∃ u, rs = [u, .int .i64 e] ∧ Pts M' u p := by
  have := Hull_fn v l M hv h64
  rw [hr] at this
  exact this
theorem HullR_is {v : Value} {l p : List Pt} {e : Int} {M : Mem} (hv : Pts M v l) (hr : hullB l = (p, e)) : V.Fn Try.prog 30 [v] M fun rs M' => ∃ u, rs = [u, .int .i64 e] ∧ Pts M' u p := by
  have := HullR_fn v l M hv
  rw [hr] at this
  exact this
theorem Area_is {v : Value} {ps : List Pt} {n : Int} {M : Mem} (hv : Pts M v ps) (h64 : i64P ps) (hV : validB ps = true) (hr : areaB ps = n) : V.Fn Try.prog 38 [v] M fun rs _ => rs = [.int .i64 n, .int .i64 0] := by
  have := Area_fn v ps M hv h64
  rw [hV, hr] at this
  exact this
theorem Area_no {v : Value} {ps : List Pt} {M : Mem} (hv : Pts M v ps) (h64 : i64P ps) (hV : validB ps = false) : V.Fn Try.prog 38 [v] M fun rs _ => rs = [.int .i64 0, .int .i64 1] := by
  have := Area_fn v ps M hv h64
  rw [hV] at this
  exact this
theorem Eight_is {v : Value} {ps q : List Pt} {M : Mem} (hv : Pts M v ps) (h64 : i64P ps) (hV : validB ps = true) (hr : eightP ps = q) : V.Fn Try.prog 36 [v] M fun rs M' => ∃ u, rs = [u, .int .i64 0] ∧ Pts M' u q := by
  have := Eight_fn v ps M hv h64
  simp only [hV, if_true] at this
  rw [hr] at this
  exact this
theorem Eight_no {v : Value} {ps : List Pt} {M : Mem} (hv : Pts M v ps) (h64 : i64P ps) (hV : validB ps = false) : V.Fn Try.prog 36 [v] M fun rs M' => rs = [.slice none 0 0, .int .i64 1] := by
  have := Eight_fn v ps M hv h64
  simp only [hV, Bool.false_eq_true, if_false] at this
  exact this
theorem EightR_is {v : Value} {ps q : List Pt} {M : Mem} (hv : Pts M v ps) (h64 : i64P ps) (hV : validB ps = true) (hr : eightP ps = q) : V.Fn Try.prog 37 [v] M fun rs M' => ∃ u, rs = [u, .int .i64 0] ∧ Pts M' u q := by
  have := EightR_fn v ps M hv h64
  simp only [hV, if_true] at this
  rw [hr] at this
  exact this
theorem EightR_no {v : Value} {ps : List Pt} {M : Mem} (hv : Pts M v ps) (h64 : i64P ps) (hV : validB ps = false) : V.Fn Try.prog 37 [v] M fun rs M' => rs = [.slice none 0 0, .int .i64 1] := by
  have := EightR_fn v ps M hv h64
  simp only [hV, Bool.false_eq_true, if_false] at this
  exact this
theorem Box_is {v : Value} {ps : List Pt} {lo hi : Pt} {M : Mem} (hv : Pts M v ps) (h64 : i64P ps) (hV : validB ps = true) (hl : boxLo ps = lo) (hh : boxHi ps = hi) : V.Fn Try.prog 34 [v] M fun rs _ => rs = [ptv lo, ptv hi, .int .i64 0] := by
  have := Box_fn v ps M hv h64
  rw [hV, hl, hh] at this
  exact this
theorem Box_no {v : Value} {ps : List Pt} {M : Mem} (hv : Pts M v ps) (h64 : i64P ps) (hV : validB ps = false) : V.Fn Try.prog 34 [v] M fun rs _ => rs = [pt 0 0, pt 0 0, .int .i64 1] := by
  have := Box_fn v ps M hv h64
  rw [hV] at this
  exact this
theorem BoxR_is {v : Value} {ps : List Pt} {lo hi : Pt} {M : Mem} (hv : Pts M v ps) (h64 : i64P ps) (hV : validB ps = true) (hl : boxLo ps = lo) (hh : boxHi ps = hi) : V.Fn Try.prog 35 [v] M fun rs _ => rs = [ptv lo, ptv hi, .int .i64 0] := by
  have := BoxR_fn v ps M hv h64
  rw [hV, hl, hh] at this
  exact this
theorem BoxR_no {v : Value} {ps : List Pt} {M : Mem} (hv : Pts M v ps) (h64 : i64P ps) (hV : validB ps = false) : V.Fn Try.prog 35 [v] M fun rs _ => rs = [pt 0 0, pt 0 0, .int .i64 1] := by
  have := BoxR_fn v ps M hv h64
  rw [hV] at this
  exact this
/-- What Has says. -/
def hasE (ps : List Pt) (x : Pt) : Bool × Int := if (validB ps && placeB x) = true then (hasB ps x, 0) else (false, 1)
theorem hasB_is {v : Value} {ps : List Pt} {x : Pt} {b : Bool} {e : Int} {M : Mem} (hv : Pts M v ps) (h64 : i64P ps) (hx : i64r x.1 ∧ i64r x.2) (hr : hasE ps x = (b, e)) : V.Fn Try.prog 26 [v, ptv x] M fun rs _ => rs = [.bool b, .int .i64 e] := by
  have := Has_fn v ps x.1 x.2 M hv h64 hx.1 hx.2
  unfold hasE at hr
  by_cases h : (validB ps && placeB x) = true
  · rw [if_pos h] at hr
    simp only [h, if_true] at this
    cases hr; exact this
  · rw [if_neg h] at hr
    simp only [h, Bool.false_eq_true, if_false] at this
    cases hr; exact this
theorem HasR_is {v : Value} {ps : List Pt} {x : Pt} {b : Bool} {e : Int} {M : Mem} (hv : Pts M v ps) (h64 : i64P ps) (hr : hasE ps x = (b, e)) : FnP Try.prog 33 [v, ptv x] M [.bool b, .int .i64 e] := by
  have := HasR_fn v ps x M hv h64
  unfold hasE at hr
  by_cases h : (validB ps && placeB x) = true
  · rw [if_pos h] at hr this
    cases hr; exact this
  · rw [if_neg h] at hr this
    cases hr; exact this
def six : List Pt := [(0, 0), (4, 0), (2, 1), (4, 4), (2, 0), (0, 4)]
def sq : List Pt := [(0, 0), (4, 0), (4, 4), (0, 4)]
def two : List Pt := [(0, 0), (5, 1)]
def rhomb : List Pt := [(0, 0), (4, 0), (5, 1), (1, 1)]
theorem hull_six : hullB six = (sq, 0) := by
  have h : aroundP six = sq := around_eq (hl_of_has (by decide) (by decide) (by decide))
  unfold hullB
  rw [h, if_neg (by decide), if_neg (by decide), if_neg (by decide)]
theorem eight_two : eightP two = rhomb := by
  unfold eightP
  exact around_eq (hl_of_has (by decide) (by decide) (by decide))
theorem hull_nil : hullB [] = ([], 1) := rfl
theorem hull_far : hullB [(500001, 0)] = ([], 1) := by
  unfold hullB
  rw [if_neg (by decide), if_pos (by decide)]
theorem i64P_of {ps : List Pt} (h : ∀ p ∈ ps, i64r p.1 ∧ i64r p.2) : i64P ps := fun i hi => h _ (gp_mem hi)
theorem i64P_valid {ps : List Pt} (hV : validB ps = true) : i64P ps := fun i hi => by
  have := allC_valid hV i hi
  unfold isC at this
  unfold i64r
  omega
end Go.Proofs.Ytaobaeiohjgdcaa

/- Contract: the examples at the head of the hull's laws. -/
namespace Go.Proofs.Ytaobaeiohjgdcaa
open Go Go.V Go.RowKit
set_option maxRecDepth 100000 in
set_option maxHeartbeats 4000000 in
theorem head03_fn (M : Mem) : V.Fn Try.prog 28 [] M fun rs _ => rs = [.bool true] := by
  refine Fn.of_vc cxOK Try.func28 rfl rfl rfl ?_
  repeat (first | refine VIf.tt ?_ | refine VIf.ff ?_)
  refine VFz.mk fun x1 _ M1 hM1 hx1 => ?_
  have hx1 : Pts M1 x1 six := hx1
  repeat (first | refine VIf.tt ?_ | refine VIf.ff ?_)
  refine VFn.mk _ (Hull_is hx1 (i64_of (by decide)) hull_six) ?_
  rintro rs M2 hM2 ⟨u, rfl, hu⟩
  have s64 : i64P sq := i64_of (by decide)
  repeat (first | refine VIf.tt ?_ | refine VIf.ff ?_)
  refine VFn.mk _ (Area_is hu s64 (n := 32) (by decide) (by decide)) ?_
  rintro rs M3 hM3 rfl
  repeat (first | refine VIf.tt ?_ | refine VIf.ff ?_)
  refine VFz.mk fun x2 _ M4 hM4 hx2 => ?_
  have hx2 : Pts M4 x2 two := hx2
  repeat (first | refine VIf.tt ?_ | refine VIf.ff ?_)
  refine VFn.mk _ (Eight_is hx2 (i64_of (by decide)) (by decide) eight_two) ?_
  rintro rs M5 hM5 ⟨w, rfl, hw⟩
  have m5 : M2.le M5 := (hM3.trans hM4).trans hM5
  repeat (first | refine VIf.tt ?_ | refine VIf.ff ?_)
  refine VFn.mk _ (Box_is (hu.le m5) s64 (lo := (0, 0)) (hi := (4, 4)) (by decide) (by decide) (by decide)) ?_
  rintro rs M6 hM6 rfl
  have m6 := m5.trans hM6
  repeat (first | refine VIf.tt ?_ | refine VIf.ff ?_)
  refine VFn.mk _ (hasB_is (x := (4, 3)) (b := true) (e := 0) (hu.le m6) s64 (by decide) (by decide)) ?_
  rintro rs M7 hM7 rfl
  have m7 := m6.trans hM7
  repeat (first | refine VIf.tt ?_ | refine VIf.ff ?_)
  refine VFn.mk _ (hasB_is (x := (5, 3)) (b := false) (e := 0) (hu.le m7) s64 (by decide) (by decide)) ?_
  rintro rs M8 hM8 rfl
  have m8 := m7.trans hM8
  repeat (first | refine VIf.tt ?_ | refine VIf.ff ?_)
  refine VFn.mk _ (Hull_is (Pts.nil _) (i64_of (by decide)) hull_nil) ?_
  rintro rs M9 hM9 ⟨u1, rfl, _⟩
  have m9 := m8.trans hM9
  repeat (first | refine VIf.tt ?_ | refine VIf.ff ?_)
  refine VFz.mk fun x3 _ M10 hM10 hx3 => ?_
  have hx3 : Pts M10 x3 [(500001, 0)] := hx3
  repeat (first | refine VIf.tt ?_ | refine VIf.ff ?_)
  refine VFn.mk _ (Hull_is hx3 (i64_of (by decide)) hull_far) ?_
  rintro rs M11 hM11 ⟨u2, rfl, _⟩
  have m11 := (m9.trans hM10).trans hM11
  repeat (first | refine VIf.tt ?_ | refine VIf.ff ?_)
  refine VFz.mk fun y1 _ M12 hM12 hy1 => ?_
  have hy1 : Pts M12 y1 sq := hy1
  have m12 := m11.trans hM12
  repeat (first | refine VIf.tt ?_ | refine VIf.ff ?_)
  refine VFn.p (Same_fn u y1 sq sq M12 (hu.le m12) hy1) ?_
  repeat (first | refine VIf.tt ?_ | refine VIf.ff ?_)
  refine VFz.mk fun y2 _ M13 hM13 hy2 => ?_
  have hy2 : Pts M13 y2 rhomb := hy2
  have m13 := m12.trans hM13
  have w13 : M5.le M13 := (((((hM6.trans hM7).trans hM8).trans hM9).trans (hM10.trans hM11)).trans hM12).trans hM13
  repeat (first | refine VIf.tt ?_ | refine VIf.ff ?_)
  refine VFn.p (Same_fn w y2 rhomb rhomb M13 (hw.le w13) hy2) ?_
  repeat (first | refine VIf.tt ?_ | refine VIf.ff ?_)
  refine VFn.mk _ (Valid_fn u sq M13 (hu.le m13) s64) ?_
  rintro rs M14 hM14 rfl
  repeat (first | refine VIf.tt ?_ | refine VIf.ff ?_)
  refine VFn.mk _ (Valid_fn _ [] M14 (Pts.nil _) (i64_of (by decide))) ?_
  rintro rs M15 hM15 rfl
  repeat (first | refine VIf.tt ?_ | refine VIf.ff ?_)
  refine VFact.mk ?_ trivial
  exact congrArg (fun b => [Value.bool b]) (by decide)
end Go.Proofs.Ytaobaeiohjgdcaa

/- HullMatchesReference: all functions of package hull return what the reference returns. No conditions beyond the statement's own. -/
namespace Go.Proofs.Ytaobaeiohjgdcaa
open Go Go.V Go.RowKit
theorem Same_is {v w : Value} {ps : List Pt} {M : Mem} (hv : Pts M v ps) (hw : Pts M w ps) : FnP Try.prog 31 [v, w] M [.bool true] := by
  have := Same_fn v w ps ps M hv hw
  rw [decide_eq_true rfl] at this
  exact this
theorem V_is {v : Value} {ps : List Pt} {b : Bool} {M : Mem} (hv : Pts M v ps) (h64 : i64P ps) (hr : validB ps = b) : V.Fn Try.prog 25 [v] M fun rs _ => rs = [.bool b] := by
  have := Valid_fn v ps M hv h64
  rw [hr] at this
  exact this
theorem ValidR_is {v : Value} {ps : List Pt} {b : Bool} {M : Mem} (hv : Pts M v ps) (h64 : i64P ps) (hr : validB ps = b) : FnP Try.prog 32 [v] M [.bool b] := by
  have := ValidR_fn v ps M hv h64
  rw [validR_eq, hr] at this
  exact this
theorem AreaR_is {v : Value} {ps : List Pt} {n : Int} {M : Mem} (hv : Pts M v ps) (h64 : i64P ps) (hV : validB ps = true) (hr : areaB ps = n) : FnP Try.prog 39 [v] M [.int .i64 n, .int .i64 0] := by
  have := AreaR_fn v ps M hv h64
  rw [if_pos hV, hr] at this
  exact this
theorem AreaR_no {v : Value} {ps : List Pt} {M : Mem} (hv : Pts M v ps) (h64 : i64P ps) (hV : validB ps = false) : FnP Try.prog 39 [v] M [.int .i64 0, .int .i64 1] := by
  have := AreaR_fn v ps M hv h64
  rw [if_neg (by rw [hV]; exact Bool.false_ne_true)] at this
  exact this
theorem beqb_no {a : Bool} {A : Prop} (h : (a == a) = false) : A := by cases a <;> cases h
theorem beqp_no {a b : Int} {A : Prop} (h : (a == a && b == b) = false) : A := by simp at h
theorem beq_no {a : Int} {A : Prop} (h : (a == a) = false) : A := by simp at h
end Go.Proofs.Ytaobaeiohjgdcaa
namespace Go.Proofs.Ytaobaeiohjgdcaa.hullMatchesReference
open Go Go.V Go.RowKit
set_option maxRecDepth 20000 in
set_option maxHeartbeats 2000000 in
theorem law_fn (v0 v1 : Value) (l p : List Pt) (x y : Int) (M : Mem) (h0 : Pts M v0 l) (g0 : i64P l) (h1 : Pts M v1 p) (h64 : i64P p) (hx : i64r x) (hy : i64r y) : V.Fn Try.prog 6 [v0, v1, .agg #[.int .i64 x, .int .i64 y]] M fun rs _ => rs = [.bool true] := by
  obtain ⟨ad, c, rfl⟩ := h0.shape
  obtain ⟨bd, d, rfl⟩ := h1.shape
  obtain ⟨⟨q, e⟩, hr⟩ : ∃ r, hullB l = r := ⟨_, rfl⟩
  obtain ⟨b, hV⟩ : ∃ b, validB p = b := ⟨_, rfl⟩
  obtain ⟨⟨b2, e2⟩, hH⟩ : ∃ r, hasE p (x, y) = r := ⟨_, rfl⟩
  refine Fn.of_vc cxOK Try.func6 rfl rfl rfl ?_
  repeat (first | refine VIf.tt ?_ | refine VIf.ff ?_)
  refine VFn.mk _ (head03_fn M) ?_
  rintro rs M1 hM1 rfl
  repeat (first | refine VIf.tt ?_ | refine VIf.ff ?_)
  refine VFn.p (Few03_fn _ l M1 (h0.le hM1)) ?_
  repeat (first | refine VIf.tt ?_ | refine VIf.ff ?_)
  refine VIf.mk (fun _ => ?_) (fun _ => ?_)
  · repeat (first | refine VIf.tt ?_ | refine VIf.ff ?_)
    refine VIf.mk (fun _ => ?_) (fun _ => ?_)
    · repeat (first | refine VIf.tt ?_ | refine VIf.ff ?_)
      exact VFact.mk rfl trivial
    repeat (first | refine VIf.tt ?_ | refine VIf.ff ?_)
    refine VFn.p (Few03_fn _ p M1 (h1.le hM1)) ?_
    repeat (first | refine VIf.tt ?_ | refine VIf.ff ?_)
    refine VIf.mk (fun _ => ?_) (fun _ => ?_)
    · repeat (first | refine VIf.tt ?_ | refine VIf.ff ?_)
      exact VFact.mk rfl trivial
    repeat (first | refine VIf.tt ?_ | refine VIf.ff ?_)
    refine VFn.mk _ (Hull_is (h0.le hM1) g0 hr) ?_
    rintro rs M2 hM2 ⟨u, rfl, hu⟩
    have m2 := hM1.trans hM2
    repeat (first | refine VIf.tt ?_ | refine VIf.ff ?_)
    refine VFn.mk _ (HullR_is (h0.le m2) hr) ?_
    rintro rs M3 hM3 ⟨w, rfl, hw⟩
    have m3 := m2.trans hM3
    repeat (first | refine VIf.tt ?_ | refine VIf.ff ?_)
    refine VFn.p (Same_is (hu.le hM3) hw) ?_
    repeat (first | refine VIf.tt ?_ | refine VIf.ff ?_)
    refine VIf.mk (fun _ => ?_) (fun h => beq_no h)
    repeat (first | refine VIf.tt ?_ | refine VIf.ff ?_)
    refine VFn.mk _ (V_is (h1.le m3) h64 hV) ?_
    rintro rs M4 hM4 rfl
    have m4 := m3.trans hM4
    repeat (first | refine VIf.tt ?_ | refine VIf.ff ?_)
    refine VFn.p (ValidR_is (h1.le m4) h64 hV) ?_
    repeat (first | refine VIf.tt ?_ | refine VIf.ff ?_)
    refine VFn.mk _ (hasB_is (x := (x, y)) (h1.le m4) h64 ⟨hx, hy⟩ hH) ?_
    rintro rs M5 hM5 rfl
    have m5 := m4.trans hM5
    repeat (first | refine VIf.tt ?_ | refine VIf.ff ?_)
    refine VFn.p (HasR_is (x := (x, y)) (h1.le m5) h64 hH) ?_
    repeat (first | refine VIf.tt ?_ | refine VIf.ff ?_)
    refine VIf.mk (fun _ => ?_) (fun h => beqb_no h)
    repeat (first | refine VIf.tt ?_ | refine VIf.ff ?_)
    refine VIf.mk (fun _ => ?_) (fun h => beqb_no h)
    cases b with
    | true =>
      obtain ⟨lo, hlo⟩ : ∃ r, boxLo p = r := ⟨_, rfl⟩
      obtain ⟨hi, hhi⟩ : ∃ r, boxHi p = r := ⟨_, rfl⟩
      obtain ⟨o, ho⟩ : ∃ r, eightP p = r := ⟨_, rfl⟩
      obtain ⟨n, hn⟩ : ∃ r, areaB p = r := ⟨_, rfl⟩
      repeat (first | refine VIf.tt ?_ | refine VIf.ff ?_)
      refine VFn.mk _ (Box_is (h1.le m5) h64 hV hlo hhi) ?_
      rintro rs M6 hM6 rfl
      have m6 := m5.trans hM6
      repeat (first | refine VIf.tt ?_ | refine VIf.ff ?_)
      refine VFn.mk _ (BoxR_is (h1.le m6) h64 hV hlo hhi) ?_
      rintro rs M7 hM7 rfl
      have m7 := m6.trans hM7
      repeat (first | refine VIf.tt ?_ | refine VIf.ff ?_)
      refine VIf.mk (fun _ => ?_) (fun h => beq_no h)
      repeat (first | refine VIf.tt ?_ | refine VIf.ff ?_)
      refine VIf.mk (fun _ => ?_) (fun h => beqp_no h)
      repeat (first | refine VIf.tt ?_ | refine VIf.ff ?_)
      refine VIf.mk (fun _ => ?_) (fun h => beqp_no h)
      repeat (first | refine VIf.tt ?_ | refine VIf.ff ?_)
      refine VFn.mk _ (Eight_is (h1.le m7) h64 hV ho) ?_
      rintro rs M8 hM8 ⟨u2, rfl, hu2⟩
      have m8 := m7.trans hM8
      repeat (first | refine VIf.tt ?_ | refine VIf.ff ?_)
      refine VFn.mk _ (EightR_is (h1.le m8) h64 hV ho) ?_
      rintro rs M9 hM9 ⟨w2, rfl, hw2⟩
      have m9 := m8.trans hM9
      repeat (first | refine VIf.tt ?_ | refine VIf.ff ?_)
      refine VFn.p (Same_is (hu2.le hM9) hw2) ?_
      repeat (first | refine VIf.tt ?_ | refine VIf.ff ?_)
      refine VFn.mk _ (Area_is (h1.le m9) h64 hV hn) ?_
      rintro rs M10 hM10 rfl
      have m10 := m9.trans hM10
      repeat (first | refine VIf.tt ?_ | refine VIf.ff ?_)
      refine VFn.p (AreaR_is (h1.le m10) h64 hV hn) ?_
      repeat (first | refine VIf.tt ?_ | refine VIf.ff ?_)
      refine VIf.mk (fun _ => ?_) (fun h => beq_no h)
      repeat (first | refine VIf.tt ?_ | refine VIf.ff ?_)
      exact VFact.mk rfl trivial
    | false =>
      repeat (first | refine VIf.tt ?_ | refine VIf.ff ?_)
      refine VFn.mk _ (Box_no (h1.le m5) h64 hV) ?_
      rintro rs M6 hM6 rfl
      have m6 := m5.trans hM6
      repeat (first | refine VIf.tt ?_ | refine VIf.ff ?_)
      refine VFn.mk _ (BoxR_no (h1.le m6) h64 hV) ?_
      rintro rs M7 hM7 rfl
      have m7 := m6.trans hM7
      repeat (first | refine VIf.tt ?_ | refine VIf.ff ?_)
      refine VIf.mk (fun _ => ?_) (fun h => beq_no h)
      repeat (first | refine VIf.tt ?_ | refine VIf.ff ?_)
      refine VFn.mk _ (Eight_no (h1.le m7) h64 hV) ?_
      rintro rs M8 hM8 rfl
      have m8 := m7.trans hM8
      repeat (first | refine VIf.tt ?_ | refine VIf.ff ?_)
      refine VFn.mk _ (EightR_no (h1.le m8) h64 hV) ?_
      rintro rs M9 hM9 rfl
      have m9 := m8.trans hM9
      repeat (first | refine VIf.tt ?_ | refine VIf.ff ?_)
      refine VFn.p (Same_is (Pts.nil _) (Pts.nil _)) ?_
      repeat (first | refine VIf.tt ?_ | refine VIf.ff ?_)
      refine VFn.mk _ (Area_no (h1.le m9) h64 hV) ?_
      rintro rs M10 hM10 rfl
      have m10 := m9.trans hM10
      repeat (first | refine VIf.tt ?_ | refine VIf.ff ?_)
      refine VFn.p (AreaR_no (h1.le m10) h64 hV) ?_
      repeat (first | refine VIf.tt ?_ | refine VIf.ff ?_)
      exact VFact.mk rfl trivial
  repeat (first | refine VIf.tt ?_ | refine VIf.ff ?_)
  refine VFn.p (Few03_fn _ p M1 (h1.le hM1)) ?_
  repeat (first | refine VIf.tt ?_ | refine VIf.ff ?_)
  refine VIf.mk (fun _ => ?_) (fun _ => ?_)
  · repeat (first | refine VIf.tt ?_ | refine VIf.ff ?_)
    exact VFact.mk rfl trivial
  repeat (first | refine VIf.tt ?_ | refine VIf.ff ?_)
  refine VFn.mk _ (Hull_is (h0.le hM1) g0 hr) ?_
  rintro rs M2 hM2 ⟨u, rfl, hu⟩
  have m2 := hM1.trans hM2
  repeat (first | refine VIf.tt ?_ | refine VIf.ff ?_)
  refine VFn.mk _ (HullR_is (h0.le m2) hr) ?_
  rintro rs M3 hM3 ⟨w, rfl, hw⟩
  have m3 := m2.trans hM3
  repeat (first | refine VIf.tt ?_ | refine VIf.ff ?_)
  refine VFn.p (Same_is (hu.le hM3) hw) ?_
  repeat (first | refine VIf.tt ?_ | refine VIf.ff ?_)
  refine VIf.mk (fun _ => ?_) (fun h => beq_no h)
  repeat (first | refine VIf.tt ?_ | refine VIf.ff ?_)
  refine VFn.mk _ (V_is (h1.le m3) h64 hV) ?_
  rintro rs M4 hM4 rfl
  have m4 := m3.trans hM4
  repeat (first | refine VIf.tt ?_ | refine VIf.ff ?_)
  refine VFn.p (ValidR_is (h1.le m4) h64 hV) ?_
  repeat (first | refine VIf.tt ?_ | refine VIf.ff ?_)
  refine VFn.mk _ (hasB_is (x := (x, y)) (h1.le m4) h64 ⟨hx, hy⟩ hH) ?_
  rintro rs M5 hM5 rfl
  have m5 := m4.trans hM5
  repeat (first | refine VIf.tt ?_ | refine VIf.ff ?_)
  refine VFn.p (HasR_is (x := (x, y)) (h1.le m5) h64 hH) ?_
  repeat (first | refine VIf.tt ?_ | refine VIf.ff ?_)
  refine VIf.mk (fun _ => ?_) (fun h => beqb_no h)
  repeat (first | refine VIf.tt ?_ | refine VIf.ff ?_)
  refine VIf.mk (fun _ => ?_) (fun h => beqb_no h)
  cases b with
  | true =>
    obtain ⟨lo, hlo⟩ : ∃ r, boxLo p = r := ⟨_, rfl⟩
    obtain ⟨hi, hhi⟩ : ∃ r, boxHi p = r := ⟨_, rfl⟩
    obtain ⟨o, ho⟩ : ∃ r, eightP p = r := ⟨_, rfl⟩
    obtain ⟨n, hn⟩ : ∃ r, areaB p = r := ⟨_, rfl⟩
    repeat (first | refine VIf.tt ?_ | refine VIf.ff ?_)
    refine VFn.mk _ (Box_is (h1.le m5) h64 hV hlo hhi) ?_
    rintro rs M6 hM6 rfl
    have m6 := m5.trans hM6
    repeat (first | refine VIf.tt ?_ | refine VIf.ff ?_)
    refine VFn.mk _ (BoxR_is (h1.le m6) h64 hV hlo hhi) ?_
    rintro rs M7 hM7 rfl
    have m7 := m6.trans hM7
    repeat (first | refine VIf.tt ?_ | refine VIf.ff ?_)
    refine VIf.mk (fun _ => ?_) (fun h => beq_no h)
    repeat (first | refine VIf.tt ?_ | refine VIf.ff ?_)
    refine VIf.mk (fun _ => ?_) (fun h => beqp_no h)
    repeat (first | refine VIf.tt ?_ | refine VIf.ff ?_)
    refine VIf.mk (fun _ => ?_) (fun h => beqp_no h)
    repeat (first | refine VIf.tt ?_ | refine VIf.ff ?_)
    refine VFn.mk _ (Eight_is (h1.le m7) h64 hV ho) ?_
    rintro rs M8 hM8 ⟨u2, rfl, hu2⟩
    have m8 := m7.trans hM8
    repeat (first | refine VIf.tt ?_ | refine VIf.ff ?_)
    refine VFn.mk _ (EightR_is (h1.le m8) h64 hV ho) ?_
    rintro rs M9 hM9 ⟨w2, rfl, hw2⟩
    have m9 := m8.trans hM9
    repeat (first | refine VIf.tt ?_ | refine VIf.ff ?_)
    refine VFn.p (Same_is (hu2.le hM9) hw2) ?_
    repeat (first | refine VIf.tt ?_ | refine VIf.ff ?_)
    refine VFn.mk _ (Area_is (h1.le m9) h64 hV hn) ?_
    rintro rs M10 hM10 rfl
    have m10 := m9.trans hM10
    repeat (first | refine VIf.tt ?_ | refine VIf.ff ?_)
    refine VFn.p (AreaR_is (h1.le m10) h64 hV hn) ?_
    repeat (first | refine VIf.tt ?_ | refine VIf.ff ?_)
    refine VIf.mk (fun _ => ?_) (fun h => beq_no h)
    repeat (first | refine VIf.tt ?_ | refine VIf.ff ?_)
    exact VFact.mk rfl trivial
  | false =>
    repeat (first | refine VIf.tt ?_ | refine VIf.ff ?_)
    refine VFn.mk _ (Box_no (h1.le m5) h64 hV) ?_
    rintro rs M6 hM6 rfl
    have m6 := m5.trans hM6
    repeat (first | refine VIf.tt ?_ | refine VIf.ff ?_)
    refine VFn.mk _ (BoxR_no (h1.le m6) h64 hV) ?_
    rintro rs M7 hM7 rfl
    have m7 := m6.trans hM7
    repeat (first | refine VIf.tt ?_ | refine VIf.ff ?_)
    refine VIf.mk (fun _ => ?_) (fun h => beq_no h)
    repeat (first | refine VIf.tt ?_ | refine VIf.ff ?_)
    refine VFn.mk _ (Eight_no (h1.le m7) h64 hV) ?_
    rintro rs M8 hM8 rfl
    have m8 := m7.trans hM8
    repeat (first | refine VIf.tt ?_ | refine VIf.ff ?_)
    refine VFn.mk _ (EightR_no (h1.le m8) h64 hV) ?_
    rintro rs M9 hM9 rfl
    have m9 := m8.trans hM9
    repeat (first | refine VIf.tt ?_ | refine VIf.ff ?_)
    refine VFn.p (Same_is (Pts.nil _) (Pts.nil _)) ?_
    repeat (first | refine VIf.tt ?_ | refine VIf.ff ?_)
    refine VFn.mk _ (Area_no (h1.le m9) h64 hV) ?_
    rintro rs M10 hM10 rfl
    have m10 := m9.trans hM10
    repeat (first | refine VIf.tt ?_ | refine VIf.ff ?_)
    refine VFn.p (AreaR_no (h1.le m10) h64 hV) ?_
    repeat (first | refine VIf.tt ?_ | refine VIf.ff ?_)
    exact VFact.mk rfl trivial
end Go.Proofs.Ytaobaeiohjgdcaa.hullMatchesReference

/- What a hull's result says; more contracts with the value given. -/
namespace Go.Proofs.Ytaobaeiohjgdcaa
open Go Go.V Go.RowKit
theorem hull_split {l p : List Pt} {e : Int} (hr : hullB l = (p, e)) : (e = 0 ∧ Hl l p ∧ validB p = true ∧ l.all placeB = true ∧ l.length ≤ 4000 ∧ p.length ≤ 64) ∨ (e ≠ 0 ∧ p = []) := by
  unfold hullB at hr
  split at hr
  · cases hr; exact .inr ⟨by decide, rfl⟩
  split at hr
  · cases hr; exact .inr ⟨by decide, rfl⟩
  split at hr
  · cases hr; exact .inr ⟨by decide, rfl⟩
  · rename_i h1 h2 h3
    cases hr
    have hne : l ≠ [] := fun h => h2 (.inl h)
    have hall : l.all placeB = true := by
      cases h : l.all placeB with
      | true => rfl
      | false => exact absurd (.inr h) h2
    have hh := around_hl hne
    exact .inl ⟨rfl, hh, hh.valid (fun x hx => List.all_eq_true.1 hall x hx) (by omega), hall, by omega, by omega⟩
theorem place_C {x : Pt} (h : placeB x = true) : isC x.1 ∧ isC x.2 := all_isC (l := [x]) (by simp [h]) x (by simp)
theorem place_64 {x : Pt} (h : placeB x = true) : i64r x.1 ∧ i64r x.2 := by
  have := place_C h
  unfold isC at this
  unfold i64r
  omega
theorem hasE_is {p : List Pt} {x : Pt} (hV : validB p = true) (hP : placeB x = true) {b : Bool} (h : hasB p x = b) : hasE p x = (b, 0) := by
  unfold hasE
  rw [hV, hP, h]; rfl
theorem has03_is {v : Value} {ps : List Pt} {x : Pt} {M : Mem} (hv : Pts M v ps) (hx : x ∈ ps) : V.Fn Try.prog 41 [v, ptv x] M fun rs _ => rs = [.bool true] := by
  have := has03_fn v ps x M hv
  rw [List.contains_iff_mem.2 hx] at this
  exact this
theorem Inside_is {v : Value} {ps : List Pt} {x : Pt} {b : Bool} {M : Mem} (hv : Pts M v ps) (hV : validB ps = true) (hP : placeB x = true) (hr : hasB ps x = b) : FnP Try.prog 40 [v, ptv x] M [.bool b] := by
  have := Inside_fn v ps x.1 x.2 M hv (allC_valid hV) (place_C hP).1 (place_C hP).2
  rw [show ((x.1, x.2) : Pt) = x from rfl, hr] at this
  exact this
theorem Place_is {x : Pt} {b : Bool} {M : Mem} (hr : placeB x = b) : FnP Try.prog 23 [ptv x] M [.bool b] := by
  have := Place_fn x.1 x.2 M
  rw [show (isCb x.1 && isCb x.2) = placeB x from rfl, hr] at this
  exact this
theorem Few_is {v : Value} {ps : List Pt} {M : Mem} {b : Bool} (hv : Pts M v ps) (hr : decide (ps.length ≤ 80) = b) : FnP Try.prog 18 [v] M [.bool b] := by
  have := Few03_fn v ps M hv
  rw [hr] at this
  exact this
end Go.Proofs.Ytaobaeiohjgdcaa

/- HullOrder: the order of places, and how often one is there, play no part; the hull of a hull's corners is this hull. No conditions beyond the statement's own. -/
namespace Go.Proofs.Ytaobaeiohjgdcaa
open Go Go.V Go.RowKit
/-- A slice of bytes. -/
def BysV (M : Mem) (v : Value) (bs : List Int) : Prop := SlAt M 1 v bs.length (bs.map (Value.int .u8)) ∧ ∀ b ∈ bs, 0 ≤ b ∧ b ≤ 255
theorem BysV.get {M : Mem} {v : Value} {bs : List Int} (h : BysV M v bs) : ∃ ad c, v = .slice ad bs.length c ∧ bs.length ≤ 9223372036854775807 ∧ ∀ M', M.le M' → ∀ i, i < bs.length → ∃ ad' b, ad = some ad' ∧ 0 ≤ b ∧ b ≤ 255 ∧ M'.cell (ad'.add (i * 1)) = some (.int .u8 b) := by
  obtain ⟨⟨ad, c, e, h1, h2, h3, h4, h5⟩, hr⟩ := h
  unfold maxLen at h2
  refine ⟨ad, c, e, by omega, fun M' hM i hi => ?_⟩
  obtain ⟨ad', rfl, hc⟩ := h5 (by omega)
  have hb := hr _ (List.getElem_mem hi)
  refine ⟨ad', bs[i], rfl, hb.1, hb.2, ?_⟩
  rw [Nat.mul_one]
  exact Mem.cell_le hM (hc i _ (by simp [hi]))
theorem hull_congr {l o : List Pt} (h : ∀ x, x ∈ o ↔ x ∈ l) (hl : l.length ≤ 4000) (ho : o.length ≤ 4000) : hullB o = hullB l := by
  by_cases hne : l = []
  · have : o = [] := List.eq_nil_iff_forall_not_mem.2 fun x hx => by have := (h x).1 hx; rw [hne] at this; cases this
    rw [hne, this]
  have hne' : o ≠ [] := fun e => hne (List.eq_nil_iff_forall_not_mem.2 fun x hx => by have := (h x).2 hx; rw [e] at this; cases this)
  have e1 : o.all placeB = l.all placeB := by
    rw [Bool.eq_iff_iff, List.all_eq_true, List.all_eq_true]
    exact ⟨fun g x hx => g x ((h x).2 hx), fun g x hx => g x ((h x).1 hx)⟩
  have e2 : aroundP o = aroundP l := around_eq ((around_hl hne).congr h)
  unfold hullB
  rw [if_neg (show ¬ 4000 < o.length by omega), if_neg (show ¬ 4000 < l.length by omega), e1, e2]
  simp only [hne, hne', false_or]
theorem hull_self {p : List Pt} (hV : validB p = true) : hullB p = (p, 0) := by
  have hn := len_one hV
  have e := around_eq (hl_of_valid hV)
  have hall : p.all placeB = true := List.all_eq_true.2 fun x hx => by
    obtain ⟨i, hi, rfl⟩ := mem_gp hx
    exact valid_place hV hi
  unfold hullB
  rw [if_neg (by omega), if_neg (by rw [hall]; intro h; rcases h with h | h; · rw [h] at hn; simp at hn
                                    · cases h), e, if_neg (by omega)]
theorem i64P_sub {l o : List Pt} (h : ∀ x ∈ o, x ∈ l) (g : i64P l) : i64P o := fun i hi => by
  obtain ⟨j, hj, e⟩ := mem_gp (h _ (gp_mem hi))
  rw [← e]; exact g j hj
theorem bne_no {a : Int} {A : Prop} (h : (a != a) = true) : A := by simp at h
theorem tmod_idx {b : Int} {n : Nat} (h1 : 0 ≤ b) : b.tmod (n : Int) = ((b.toNat % n : Nat) : Int) := by
  rw [Int.tmod_eq_emod_of_nonneg h1]
  have : b = (b.toNat : Int) := (Int.toNat_of_nonneg h1).symm
  rw [this]; simp
end Go.Proofs.Ytaobaeiohjgdcaa
namespace Go.Proofs.Ytaobaeiohjgdcaa.hullOrder
open Go Go.V Go.RowKit
set_option maxRecDepth 20000 in
set_option maxHeartbeats 2000000 in
theorem law_fn (v0 v1 : Value) (l : List Pt) (bs : List Int) (M : Mem) (h0 : Pts M v0 l) (g0 : i64P l) (h1 : BysV M v1 bs) : V.Fn Try.prog 8 [v0, v1] M fun rs _ => rs = [.bool true] := by
  obtain ⟨ad, c, rfl⟩ := h0.shape
  obtain ⟨bd, d, rfl, hm1, hrd1⟩ := h1.get
  obtain ⟨_, hm0, hrd0⟩ := h0.cellsOf
  unfold maxLen at hm0
  obtain ⟨⟨p, e⟩, hr⟩ : ∃ r, hullB l = r := ⟨_, rfl⟩
  refine Fn.of_vc cxOK Try.func8 rfl rfl rfl ?_
  repeat (first | refine VIf.tt ?_ | refine VIf.ff ?_)
  refine VFn.mk _ (head03_fn M) ?_
  rintro rs M1 hM1 rfl
  repeat (first | refine VIf.tt ?_ | refine VIf.ff ?_)
  refine VIf.mk (fun _ => ?_) (fun hl40 => ?_)
  · repeat (first | refine VIf.tt ?_ | refine VIf.ff ?_)
    exact VFact.mk rfl trivial
  repeat (first | refine VIf.tt ?_ | refine VIf.ff ?_)
  refine VIf.mk (fun _ => ?_) (fun hb40 => ?_)
  · repeat (first | refine VIf.tt ?_ | refine VIf.ff ?_)
    exact VFact.mk rfl trivial
  have hl40 : l.length ≤ 40 := by have := of_decide_eq_false hl40; omega
  have hb40 : bs.length ≤ 40 := by have := of_decide_eq_false hb40; omega
  repeat (first | refine VIf.tt ?_ | refine VIf.ff ?_)
  refine VFn.mk _ (Hull_is (h0.le hM1) g0 hr) ?_
  rintro rs M2 hM2 ⟨u, rfl, hu⟩
  have m2 := hM1.trans hM2
  obtain ⟨ud, uc, rfl⟩ := hu.shape
  repeat (first | refine VIf.tt ?_ | refine VIf.ff ?_)
  refine VCode.loop cxOK Nat
    (fun i => ⟨[(0, .v (.slice ad l.length c)), (1, .v (.slice bd bs.length d)), (5, .v (.bool true)), (6, .v (.slice ud p.length uc)), (7, .v (.int .i64 e)), (8, .row 0), (32, .v (.int .i64 l.length)), (33, .v (.int .i64 i))], [(0, some (.row 39 2 (l.reverse.take i).length (cellsP (l.reverse.take i))))], 1, M2, 101, ⟨fun _ => none, none, fun _ => none⟩⟩)
    (fun i => i ≤ l.length) (fun i => l.length - i) 0 (Nat.zero_le _) ?_ ?_
  · exact Wk.nil 8 39 2 rfl (Wk.mk' id (by repeat' constructor) (by repeat' constructor) (injOK_id _) rfl rfl rfl)
  rintro i hi m
  have hi : i ≤ l.length := hi
  repeat (first | refine VIf.tt ?_ | refine VIf.ff ?_)
  refine VIf.mk (fun hlt => ?_) (fun hge => ?_)
  · have hlt : i < l.length := lt_of_dec hlt
    obtain ⟨ad1, e1, r1⟩ := hrd0 M2 m2 (l.length - 1 - i) (by omega)
    repeat (first | refine VIf.tt ?_ | refine VIf.ff ?_)
    refine VArith.ok (by first | omega | (simp only; omega)) (by first | omega | (simp only; omega)) ?_
    repeat (first | refine VIf.tt ?_ | refine VIf.ff ?_)
    refine VArith.ok (by first | omega | (simp only; omega)) (by first | omega | (simp only; omega)) ?_
    repeat (first | refine VIf.tt ?_ | refine VIf.ff ?_)
    refine VIdx.mk ad1 (l.length - 1 - i) e1 (by omega) (by omega) ?_
    repeat (first | refine VIf.tt ?_ | refine VIf.ff ?_)
    refine VReads.mk [.int .i64 (gp l (l.length - 1 - i)).1, .int .i64 (gp l (l.length - 1 - i)).2] rfl r1 ?_
    repeat (first | refine VIf.tt ?_ | refine VIf.ff ?_)
    refine VFact.mk (by simp only; rw [List.length_take]; omega) ?_
    repeat (first | refine VIf.tt ?_ | refine VIf.ff ?_)
    refine VArith.ok (by first | omega | (simp only; omega)) (by first | omega | (simp only; omega)) ?_
    have he : l.reverse.take (i + 1) = l.reverse.take i ++ [gp l (l.length - 1 - i)] := by
      have h1 : l.length - 1 - i < l.length := by omega
      have : l.reverse[i]? = some (gp l (l.length - 1 - i)) := by
        simp [gp, List.getElem?_reverse, hlt, h1]
      rw [List.take_add_one, this]; rfl
    have e1 := congrArg List.length he
    rw [List.length_append] at e1
    have e2 := (congrArg cellsP he).trans (cells_app1 _ _)
    exact ⟨i + 1, hlt, (by first | omega | (simp only; omega)), Wk.mk' (fun k => if k = 0 then 2 else k) (by repeat' constructor) (by repeat' (first | exact e1.symm | exact e1 | exact e2.symm | exact e2 | constructor)) (injOK_b rfl) rfl rfl rfl⟩
  have : i = l.length := by have := ge_of_dec hge; omega
  subst this
  rw [List.take_of_length_le (show l.reverse.length ≤ l.length by simp)]
  repeat (first | refine VIf.tt ?_ | refine VIf.ff ?_)
  refine VCode.loop cxOK (Nat × List Pt)
    (fun s => ⟨[(0, .v (.slice ad l.length c)), (5, .v (.bool true)), (6, .v (.slice ud p.length uc)), (7, .v (.int .i64 e)), (8, .row 0), (48, .v (.slice bd bs.length d)), (49, .v (.int .i64 bs.length)), (50, .v (.int .i64 s.1))], [(0, some (.row 39 2 s.2.length (cellsP s.2)))], 1, M2, 101, ⟨fun _ => none, none, fun _ => none⟩⟩)
    (fun s => s.1 ≤ bs.length ∧ (∀ x, x ∈ s.2 ↔ x ∈ l) ∧ s.2.length ≤ 40 + s.1) (fun s => bs.length - s.1) (0, l.reverse) ⟨Nat.zero_le _, fun x => List.mem_reverse, by simp only [List.length_reverse]; omega⟩ (Wk.mk' id (by repeat' constructor) (by repeat' constructor) (injOK_id _) rfl rfl rfl) ?_
  rintro ⟨j, o⟩ ⟨hj, ho, hol⟩ m
  have hj : j ≤ bs.length := hj
  have ho : ∀ x, x ∈ o ↔ x ∈ l := ho
  have hol : o.length ≤ 40 + j := hol
  repeat (first | refine VIf.tt ?_ | refine VIf.ff ?_)
  refine VIf.mk (fun hlt => ?_) (fun hge => ?_)
  · have hlt : j < bs.length := lt_of_dec hlt
    obtain ⟨ad2, b, e2, b1, b2, r2⟩ := hrd1 M2 m2 j hlt
    repeat (first | refine VIf.tt ?_ | refine VIf.ff ?_)
    refine VIdx.mk ad2 j e2 rfl hlt ?_
    repeat (first | refine VIf.tt ?_ | refine VIf.ff ?_)
    refine VRead.mk (.int .u8 b) r2 ?_
    repeat (first | refine VIf.tt ?_ | refine VIf.ff ?_)
    refine VIf.mk (fun hp => ?_) (fun hp => ?_)
    · have hp : 0 < l.length := by have := of_decide_eq_true hp; omega
      obtain ⟨ad1, e1, r1⟩ := hrd0 M2 m2 (b.toNat % l.length) (Nat.mod_lt _ hp)
      repeat (first | refine VIf.tt ?_ | refine VIf.ff ?_)
      refine VArith.ok (by first | omega | (simp only; omega)) (by first | omega | (simp only; omega)) ?_
      repeat (first | refine VIf.tt ?_ | refine VIf.ff ?_)
      refine VDiv.mk (by omega) ?_
      repeat (first | refine VIf.tt ?_ | refine VIf.ff ?_)
      refine VIdx.mk ad1 (b.toNat % l.length) e1 (tmod_idx b1) (Nat.mod_lt _ hp) ?_
      repeat (first | refine VIf.tt ?_ | refine VIf.ff ?_)
      refine VReads.mk [.int .i64 (gp l (b.toNat % l.length)).1, .int .i64 (gp l (b.toNat % l.length)).2] rfl r1 ?_
      repeat (first | refine VIf.tt ?_ | refine VIf.ff ?_)
      refine VFact.mk (by simp only; omega) ?_
      repeat (first | refine VIf.tt ?_ | refine VIf.ff ?_)
      refine VArith.ok (by first | omega | (simp only; omega)) (by first | omega | (simp only; omega)) ?_
      have he := cells_app1 o (gp l (b.toNat % l.length))
      have hel : (o ++ [gp l (b.toNat % l.length)]).length = o.length + 1 := by simp
      refine ⟨(j + 1, o ++ [gp l (b.toNat % l.length)]), ⟨hlt, fun x => ?_, by simp only [hel]; omega⟩, (by first | omega | (simp only; omega)), Wk.mk' (fun k => if k = 0 then 2 else k) (by repeat' constructor) (by repeat' (first | exact hel.symm | exact hel | exact he.symm | exact he | constructor)) (injOK_b rfl) rfl rfl rfl⟩
      simp only [List.mem_append, List.mem_singleton, ho]
      constructor
      · rintro (h | rfl)
        · exact h
        · exact gp_mem (Nat.mod_lt _ hp)
      · exact .inl
    · repeat (first | refine VIf.tt ?_ | refine VIf.ff ?_)
      refine VArith.ok (by first | omega | (simp only; omega)) (by first | omega | (simp only; omega)) ?_
      exact ⟨(j + 1, o), ⟨hlt, ho, by simp only; omega⟩, (by first | omega | (simp only; omega)), (Wk.mk' id (by repeat' constructor) (by repeat' constructor) (injOK_id _) rfl rfl rfl)⟩
  · repeat (first | refine VIf.tt ?_ | refine VIf.ff ?_)
    refine VFz.mk fun x B M3 hM3 hx => ?_
    have hx : Pts M3 x o := hx
    have m3 := m2.trans hM3
    have hr2 : hullB o = (p, e) := by rw [hull_congr ho (by omega) (by omega)]; exact hr
    repeat (first | refine VIf.tt ?_ | refine VIf.ff ?_)
    refine VFn.mk _ (Hull_is hx (i64P_sub (fun x hx => (ho x).1 hx) g0) hr2) ?_
    rintro rs M4 hM4 ⟨w, rfl, hw⟩
    have m4' : M2.le M4 := hM3.trans hM4
    repeat (first | refine VIf.tt ?_ | refine VIf.ff ?_)
    refine VIf.mk (fun h => bne_no h) (fun _ => ?_)
    repeat (first | refine VIf.tt ?_ | refine VIf.ff ?_)
    refine VFn.p (Same_is (hu.le m4') hw) ?_
    rcases hull_split hr with ⟨rfl, hh, hV, _⟩ | ⟨he, _⟩
    · repeat (first | refine VIf.tt ?_ | refine VIf.ff ?_)
      refine VFn.mk _ (Hull_is (hu.le m4') (i64P_valid hV) (hull_self hV)) ?_
      rintro rs M5 hM5 ⟨w2, rfl, hw2⟩
      repeat (first | refine VIf.tt ?_ | refine VIf.ff ?_)
      refine VFn.p (Same_is hw2 (hu.le (m4'.trans hM5))) ?_
      repeat (first | refine VIf.tt ?_ | refine VIf.ff ?_)
      exact VFact.mk rfl trivial
    · repeat (first | refine VIf.tt ?_ | refine VIf.ff ?_)
      refine VIf.mk (fun _ => ?_) (fun h => absurd (bne_eq_false_iff_eq.1 h) he)
      repeat (first | refine VIf.tt ?_ | refine VIf.ff ?_)
      exact VFact.mk rfl trivial
end Go.Proofs.Ytaobaeiohjgdcaa.hullOrder

/- The bridge: slices of bytes. -/
namespace Go.Proofs.Ytaobaeiohjgdcaa
open Go Go.V Go.RowKit
section
variable {H : Type} {enc : TypeId × Value → H} {w : World} {sp : Nat → Bool} {held : Bool}
def ByteD (_ : Mem) (n : Int) (r : List Value) : Prop := r = [.int .u8 n] ∧ 0 ≤ n ∧ n ≤ 255
theorem opens5 : Opens enc Try.prog w sp held ByteD 5 1 := by
  intro fuel cs x h
  obtain ⟨n, rfl, _, hw⟩ := DataW.trod_int Try.underlying5 h
  have : 0 ≤ n ∧ n ≤ 255 := by simpa [Lit.wf, IntKind.min, IntKind.max, IntKind.signed, IntKind.bits] using hw
  exact ⟨n, ⟨rfl, this⟩, rfl, by simp [Value.oneCell']⟩
theorem BysV.of_arr {M : Mem} {v : Value} {bs : List Int} (h : Arr ByteD M 1 v bs) : BysV M v bs := by
  obtain ⟨rows, h1, h2, h3, h4⟩ := h
  have e : rows = bs.map fun n => [Value.int .u8 n] := by
    apply List.ext_getElem?
    intro i
    rw [List.getElem?_map]
    cases hp : bs[i]? with
    | none =>
      have := List.getElem?_eq_none_iff.1 hp
      simp only [Option.map_none]
      exact List.getElem?_eq_none (by omega)
    | some p =>
      have hi := (List.getElem?_eq_some_iff.1 hp).1
      have hr : rows[i]? = some (rows[i]'(by omega)) := List.getElem?_eq_getElem (by omega)
      rw [hr]
      simp only [Option.map_some, Option.some.injEq]
      exact (h4 i p _ hp hr).1
  have e2 : rows.flatten = bs.map (Value.int .u8) := by
    rw [e]
    clear h1 h2 h3 h4 e
    induction bs with
    | nil => rfl
    | cons b bs ih => simp only [List.map_cons, List.flatten_cons, ih]; rfl
  rw [e2] at h3
  refine ⟨h3, fun b hb => ?_⟩
  obtain ⟨i, hi, rfl⟩ := List.getElem_of_mem hb
  have hr : rows[i]? = some (rows[i]'(by omega)) := List.getElem?_eq_getElem (by omega)
  exact (h4 i _ _ (List.getElem?_eq_getElem hi) hr).2
theorem opens57 : Opens enc Try.prog w sp held (fun M l r => ∃ v, r = [v] ∧ BysV M v l) 57 1 := by
  intro fuel cs x h
  obtain ⟨l, ⟨v, rfl, ha⟩, h2, h3⟩ := opens_slice Try.underlying57 (k := 1) (by kernel_rfl) (by omega) opens5 fuel cs x h
  exact ⟨l, ⟨v, rfl, BysV.of_arr ha⟩, h2, h3⟩
end
end Go.Proofs.Ytaobaeiohjgdcaa

/- The verification-condition framework, part T: a region that draws its order, more than one of whose operations make memory, in any order. -/
namespace Go.V
open Go Go.RowKit
variable {P : Program}

/-- It has not been taken, and whom it waits for has been. -/
def rdyB (ops : List Oper) (D : List Nat) (i : Nat) : Bool :=
  !D.any (Nat.beq i) && match ops[i]? with | some o => (bindsOn o).all (fun k => D.any (Nat.beq k)) | none => false
def nextV (ops : List Oper) (vs D : List Nat) : Option Nat := vs.find? (rdyB ops D)
def cands (ops : List Oper) (D : List Nat) : List Nat := (List.range ops.length).filter (rdyB ops D)
/-- Two operations of which neither waits for the other are apart. -/
def pairS (ops : Array Oper) (tab : List Nat) (i j : Nat) : Bool :=
  match ops[i]?, ops[j]? with
  | some o, some o' => dstNe o o' && (anc tab j i || anc tab i j || (!dstIn (o'.looksAt ops) o && !dstIn (o.looksAt ops) o'))
  | _, _ => false
def statOK (ops : Array Oper) (vs tab : List Nat) : Bool :=
  tabOK ops.toList tab && (ops.toList.all plainOp) && (vs.all fun i => (List.range ops.size).all fun j => Nat.beq i j || pairS ops tab i j)
theorem any_beq {D : List Nat} {i : Nat} : D.any (Nat.beq i) = true ↔ i ∈ D := by
  rw [List.any_eq_true]
  constructor
  · rintro ⟨x, hx, h⟩
    rw [Nat.eq_of_beq_eq_true h]; exact hx
  · exact fun h => ⟨i, h, Nat.beq_refl i⟩
theorem rdyB_iff {ops : Array Oper} {D : List Nat} {i : Nat} : rdyB ops.toList D i = true ↔ i ∉ D ∧ ∃ o, ops[i]? = some o ∧ ∀ k ∈ bindsOn o, k ∈ D := by
  unfold rdyB
  rw [Bool.and_eq_true, Bool.not_eq_true', ← Bool.not_eq_true, any_beq]
  constructor
  · rintro ⟨h1, h2⟩
    refine ⟨h1, ?_⟩
    split at h2
    · rename_i o ho
      refine ⟨o, by simpa using ho, fun k hk => any_beq.1 (List.all_eq_true.1 h2 k hk)⟩
    · cases h2
  · rintro ⟨h1, o, ho, hk⟩
    refine ⟨h1, ?_⟩
    have ho' : ops.toList[i]? = some o := by simpa using ho
    rw [ho']
    exact List.all_eq_true.2 fun k hk' => any_beq.2 (hk k hk')
/-- The operations, what yields a value as soon as it can; of the others any that can. -/
def eagT (R : WR) (F : Fence) (n : Nat) (P : Program) (ops : Array Oper) (vs : List Nat) (Q : Exit → Act → World → Prop) : Nat → List Nat → Act → World → Prop
  | 0, _, a, w => Q .normal a w
  | f + 1, D, a, w => match nextV ops.toList vs D with
    | some i => ∃ o, ops[i]? = some o ∧ ∃ v, (∀ W, R.r w W → Yv P ops o a v W) ∧ (∀ W g, R.r w W → o.about P W a.eval = some g → F.fn g) ∧ eagT R F n P ops vs Q f (i :: D) (a.put o.dst v) w
    | none => ∀ i ∈ cands ops.toList D, wpOpIn F n P ops Q i (fun a' w' => R.r w w' ∧ eagT R F n P ops vs Q f (i :: D) a' w') a w
theorem statOK_spec {ops : Array Oper} {vs tab : List Nat} (h : statOK ops vs tab = true) : tabOK ops.toList tab = true ∧ (∀ (i : Nat) (o : Oper), ops[i]? = some o → plainOp o = true) ∧ ∀ i ∈ vs, ∀ j, j < ops.size → i ≠ j → pairS ops tab i j = true := by
  simp only [statOK, Bool.and_eq_true, List.all_eq_true, List.mem_range, Bool.or_eq_true] at h
  obtain ⟨⟨h1, h2⟩, h3⟩ := h
  refine ⟨h1, fun i o ho => h2 o ?_, fun i hi j hj hne => ?_⟩
  · exact List.mem_of_getElem? (by simpa using ho : ops.toList[i]? = some o)
  · rcases h3 i hi j hj with h | h
    · exact absurd (Nat.eq_of_beq_eq_true h) hne
    · exact h
theorem pairS_pair {ops : Array Oper} {tab : List Nat} {i j : Nat} (h : pairS ops tab i j = true) (hn : anc tab i j = false) : pairOK ops tab (i, 0) (j, 0) = true := by
  unfold pairS at h
  unfold pairOK
  split at h
  · rename_i o o' h1 h2
    simp only [h1, h2]
    rw [hn, Bool.or_false] at h
    simpa using h
  · cases h
theorem all_lt_len : ∀ (n : Nat) (D : List Nat), (∀ i, i < n → i ∈ D) → n ≤ D.length
  | 0, _, _ => Nat.zero_le _
  | n + 1, D, h => by
    have hn := h n (Nat.lt_succ_self n)
    have ih := all_lt_len n (D.erase n) fun i hi => (List.mem_erase_of_ne (by omega)).2 (h i (by omega))
    rw [List.length_erase_of_mem hn] at ih
    have := List.length_pos_of_mem hn
    omega
theorem nodup_le_len : ∀ (n : Nat) (E : List Nat), (∀ x ∈ E, x < n) → E.Nodup → E.length ≤ n
  | 0, E, hE, _ => by
    cases E with
    | nil => exact Nat.le_refl _
    | cons x E => have := hE x List.mem_cons_self; omega
  | n + 1, E, hE, hn => by
    by_cases hm : n ∈ E
    · have := nodup_le_len n (E.erase n) (fun x hx => by
        have h1 := hE x (List.mem_of_mem_erase hx)
        have h2 := (hn.mem_erase_iff.1 hx).1
        omega) (hn.erase n)
      rw [List.length_erase_of_mem hm] at this
      omega
    · have := nodup_le_len n E (fun x hx => by
        have h1 := hE x hx
        have : x ≠ n := fun e => hm (e ▸ hx)
        omega) hn
      omega
theorem bindsOn_lt {ops : Array Oper} {tab : List Nat} (h : tabOK ops.toList tab = true) {i : Nat} {o : Oper} (ho : ops[i]? = some o) {k : Nat} (hk : k ∈ bindsOn o) : k < i := by
  have ho' : ops.toList[i]? = some o := by simpa using ho
  have hi : i < ops.toList.length := (List.getElem?_eq_some_iff.1 ho').1
  simp only [tabOK, List.all_eq_true, List.mem_range] at h
  have h1 := h i hi
  rw [ho'] at h1
  simp only [Bool.and_eq_true, List.all_eq_true] at h1
  exact Nat.le_of_ble_eq_true (h1.1 k hk)
/-- The state of such a region under way. -/
structure WayT (R : WR) (F : Fence) (n : Nat) (P : Program) (ops : Array Oper) (vs : List Nat) (Q : Exit → Act → World → Prop) (tab : List Nat) (us : List Nat) (listed : Array Bool) (a la : Act) (w : World) (pend : List PE) (D : List Nat) (f : Nat) : Prop where
  und : us.Nodup
  size : listed.size = ops.size
  uiff : ∀ i, i < ops.size → (listed.getD i true = false ↔ i ∈ us)
  ult : ∀ i ∈ us, i < ops.size
  dnd : D.Nodup
  len : D.length + f = ops.size
  dA : ∀ i, i < ops.size → i ∉ us → i ∈ D
  dP : ∀ i ∈ D, i ∈ us → ∃ p ∈ pend, p.i = i
  dlt : ∀ i ∈ D, i < ops.size
  punl : ∀ p ∈ pend, p.i ∈ us ∧ p.i ∈ D ∧ p.i ∈ vs
  pnd : (pend.map PE.i).Nodup
  closedD : ∀ i o, ops[i]? = some o → i ∈ D → ∀ k ∈ bindsOn o, k ∈ D
  closed : ∀ i o, ops[i]? = some o → listed.getD i false = true → ∀ k ∈ bindsOn o, listed.getD k false = true
  defers : a.defers = la.defers
  tsize : a.tmps.size = la.tmps.size
  agree : ∀ d, (∀ p ∈ pend, p.o.dst ≠ some d) → a.tmps[d]? = la.tmps[d]?
  inv : PInv R F P ops tab a la w pend
  rest : eagT R F n P ops vs Q f D la w
theorem way_anyT {R : WR} {F : Fence} {n : Nat} {ops : Array Oper} {Q : Exit → Act → World → Prop} {vs tab : List Nat} (hok : statOK ops vs tab = true) (hQ : ∀ c a w, ¬ Q (.panic c) a w) :
    ∀ (fuel : Nat) {us : List Nat} {listed : Array Bool} {a la : Act} {w : World} {pend : List PE} {D : List Nat} {f : Nat}, us.length = fuel → WayT R F n P ops vs Q tab us listed a la w pend D f → wpAnyIn F n P .any ops Q fuel listed a w := by
  obtain ⟨htab, hplain, hstat⟩ := statOK_spec hok
  have fin : ∀ {listed : Array Bool} {a la : Act} {w : World} {pend : List PE} {D : List Nat} {f : Nat}, WayT R F n P ops vs Q tab [] listed a la w pend D f → Q .normal a w := by
    intro listed a la w pend D f h
    have hp : pend = [] := by
      cases pend with
      | nil => rfl
      | cons p l => have := (h.punl p List.mem_cons_self).1; cases this
    subst hp
    have hf : f = 0 := by
      have := all_lt_len ops.size D fun i hi => h.dA i hi (fun hx => by cases hx)
      have := h.len
      omega
    subst hf
    have hal : a = la := by
      have h1 := h.defers
      have h2 : a.tmps = la.tmps := Array.ext_getElem? (fun d => h.agree d (fun p hp => by cases hp))
      cases a; cases la
      simp only at h1 h2
      subst h1; subst h2; rfl
    rw [hal]; exact h.rest
  -- something can come up: the least of those that are left
  have some_ready : ∀ {us : List Nat} {listed : Array Bool} {a la : Act} {w : World} {pend : List PE} {D : List Nat} {f : Nat}, WayT R F n P ops vs Q tab us listed a la w pend D f → Region.ready .any ops listed = [] → us = [] := by
    intro us listed a la w pend D f h hr
    cases hus : us with
    | nil => rfl
    | cons i0 us' =>
      exfalso
      obtain ⟨i, hi, hmin⟩ : ∃ i, i ∈ us ∧ ∀ k, k < i → k ∉ us := by
        obtain ⟨m, hm1, hm2⟩ := least_of (p := fun i => i ∈ us) i0 (by rw [hus]; exact List.mem_cons_self)
        exact ⟨m, hm1, fun k hk hku => by have := hm2 k hku; omega⟩
      have hlt := h.ult i hi
      have ho : ops[i]? = some ops[i] := Array.getElem?_eq_getElem hlt
      have : i ∈ Region.ready .any ops listed := ready_iff.2 ⟨hlt, (h.uiff i hlt).2 hi, _, ho, fun k hk => by
        have hki : k < i := bindsOn_lt htab ho hk
        have hnk := mt (h.uiff k (by omega)).1 (hmin k hki)
        rw [getD_tf (by rw [h.size]; omega)] at hnk
        simpa using hnk⟩
      rw [hr] at this; cases this
  intro fuel
  induction fuel with
  | zero =>
    intro us listed a la w pend D f hlen h
    have hus : us = [] := List.length_eq_zero_iff.1 hlen
    subst hus
    refine ⟨?_, fin h⟩
    cases hr : Region.ready .any ops listed with
    | nil => rfl
    | cons i l =>
      have hi : i ∈ Region.ready .any ops listed := by rw [hr]; exact List.mem_cons_self
      obtain ⟨h1, h2, _⟩ := ready_iff.1 hi
      have := (h.uiff i h1).1 h2
      cases this
  | succ fuel ih =>
    intro us listed a la w pend D f hlen h
    refine ⟨fun hr => ?_, fun i hi => ?_⟩
    · have := some_ready h hr
      subst this
      exact fin h
    · obtain ⟨hilt, hil, oi, hoi, hib⟩ := ready_iff.1 hi
      have hius : i ∈ us := (h.uiff i hilt).1 hil
      have hlen' : (us.erase i).length = fuel := by rw [List.length_erase_of_mem hius, hlen]; rfl
      have noanc : ∀ k, k ∈ us → anc tab i k = false := by
        intro k hk
        cases ha : anc tab i k with
        | false => rfl
        | true =>
          exfalso
          have := anc_done htab (Ls := fun k => listed.getD k false = true) h.closed i k oi hoi hib ha (fun k hk => by rw [← h.size]; exact getD_lt hk)
          have h2 := (h.uiff k (h.ult k hk)).2 hk
          rw [getD_tf (by rw [h.size]; exact h.ult k hk)] at h2
          rw [h2] at this; cases this
      have hsz' : (listed.setIfInBounds i true).size = ops.size := by simp [h.size]
      have huiff' : ∀ k, k < ops.size → ((listed.setIfInBounds i true).getD k true = false ↔ k ∈ us.erase i) := by
        intro k hk
        rw [getD_set (by rw [h.size]; exact hilt), h.und.mem_erase_iff]
        by_cases hik : i = k
        · subst hik; simp
        · rw [if_neg hik, h.uiff k hk]
          exact ⟨fun h1 => ⟨fun e => hik e.symm, h1⟩, fun h1 => h1.2⟩
      have hclosed' : ∀ j o, ops[j]? = some o → (listed.setIfInBounds i true).getD j false = true → ∀ k ∈ bindsOn o, (listed.setIfInBounds i true).getD k false = true := by
        intro j o hj hl k hk
        rw [getD_set (by rw [h.size]; exact hilt)] at hl ⊢
        split
        · rfl
        · split at hl
          · rename_i e; subst e
            rw [hoi] at hj; cases hj
            exact hib k hk
          · exact h.closed j o hj hl k hk
      have hpl : plainOp oi = true := hplain i oi hoi
      have hibus : ∀ k ∈ bindsOn oi, k < ops.size ∧ k ∉ us := fun k hk => by
        have h1 := hib k hk
        have hks : k < ops.size := by rw [← h.size]; exact getD_lt h1
        refine ⟨hks, fun hku => ?_⟩
        have h2 := (h.uiff k hks).2 hku
        rw [getD_tf (by rw [h.size]; exact hks)] at h2
        rw [h2] at h1; cases h1
      clear hi hil
      have hund' := h.und.erase i
      have hult' : ∀ k ∈ us.erase i, k < ops.size := fun k hk => h.ult k (List.mem_of_mem_erase hk)
      have hmem' : ∀ k ∈ us, k ≠ i → k ∈ us.erase i := fun k hk hne => (h.und.mem_erase_iff).2 ⟨hne, hk⟩
      have hne' : ∀ k ∈ us.erase i, k ≠ i := fun k hk => ((h.und.mem_erase_iff).1 hk).1
      -- one that was taken ahead
      have doP : ∀ {la : Act} {pend : List PE} {D : List Nat} {f : Nat}, WayT R F n P ops vs Q tab us listed a la w pend D f → (∃ p ∈ pend, p.i = i) → wpOpIn F n P ops Q i (wpAnyIn F n P .any ops Q fuel (listed.setIfInBounds i true)) a w := by
        rintro la pend D f h ⟨p, hp, hpi⟩
        obtain ⟨l', hpe, hl'⟩ := h.inv.get p hp
        have hpo : p.o = oi := by have := hpe.ho; rw [hpi, hoi] at this; exact (Option.some.inj this).symm
        have hsee : Sees ops oi a p.b := by
          intro d hd
          rw [← hpo] at hd
          rcases hpe.see d hd with ⟨q, hq, hqd, _⟩ | ⟨_, h4⟩
          · have hqp := hl' q hq
            have := pair_spec (p := (q.i, 0)) (q := (p.i, 0)) (h.inv.ho q hqp) hpe.ho (hpe.pair q hq)
            exact absurd hd ((this.2 (by rw [hpi]; exact noanc q.i (h.punl q hqp).1)).2.2.1 d hqd)
          · exact h4.symm
        have hval := h.inv.val p hp
        have next : wpAnyIn F n P .any ops Q fuel (listed.setIfInBounds i true) (a.put oi.dst p.v) w := by
          refine ih (us := us.erase i) (la := la) (pend := pend.filter fun q => !Nat.beq q.i i) (D := D) (f := f) hlen' ⟨hund', hsz', huiff', hult', h.dnd, h.len, ?_, ?_, h.dlt, ?_, ?_, h.closedD, hclosed', by rw [put_defers]; exact h.defers, by rw [put_size]; exact h.tsize, ?_, ?_, h.rest⟩
          · intro k hk hku
            by_cases e : k = i
            · subst e; rw [← hpi]; exact (h.punl p hp).2.1
            · exact h.dA k hk fun hx => hku (hmem' k hx e)
          · intro k hkD hku
            obtain ⟨q, hq, hqk⟩ := h.dP k hkD (List.mem_of_mem_erase hku)
            refine ⟨q, List.mem_filter.2 ⟨hq, ?_⟩, hqk⟩
            cases hb : Nat.beq q.i i with
            | false => rfl
            | true => exact absurd ((Nat.eq_of_beq_eq_true hb).symm.trans hqk).symm (hne' k hku)
          · intro q hq
            obtain ⟨hq1, hq2⟩ := List.mem_filter.1 hq
            exact ⟨hmem' q.i (h.punl q hq1).1 (fun he => by rw [he, Nat.beq_refl] at hq2; cases hq2), (h.punl q hq1).2⟩
          · exact List.Nodup.sublist (List.Sublist.map _ List.filter_sublist) h.pnd
          · intro d hd
            by_cases hdd : oi.dst = some d
            · rw [hdd, put_get, if_pos rfl, hval d (by rw [hpo]; exact hdd), h.tsize]
            · rw [put_other _ _ hdd]
              refine h.agree d fun q hq hqd => ?_
              by_cases hqi : q.i = i
              · have := h.inv.ho q hq
                rw [hqi, hoi] at this
                cases this
                exact hdd hqd
              · refine hd q (List.mem_filter.2 ⟨hq, ?_⟩) hqd
                cases hb : Nat.beq q.i i with
                | false => rfl
                | true => exact absurd (Nat.eq_of_beq_eq_true hb) hqi
          · have := PInv.exec (j := p) (tab := tab) hpe.ho h.tsize hval h.inv (fun q hq _ => by rw [hpi]; exact noanc q.i (h.punl q hq).1) h.pnd (.inl hp)
            rw [hpo, hpi] at this
            exact this
        have hyv := hpe.yv w hpe.bel
        have hab := fun f => hpe.ab w f hpe.bel
        rw [hpo] at hyv hab
        unfold wpOpIn
        simp only [hoi]
        rw [hsee.wanted]
        rcases hyv with ⟨hw, hrun⟩ | ⟨hw, hv⟩
        · rw [if_pos hw]
          unfold Oper.wpIn
          rw [hsee.about]
          refine ⟨hab, ?_⟩
          rw [Oper.semAt_plain _ _ _ (plain_defer hpl), hsee.exec hpl, hrun]
          exact next
        · rw [if_neg (by rw [hw]; exact Bool.false_ne_true)]
          rw [hsee.about]
          exact ⟨hab, by rw [← hv]; exact next⟩
      have main : ∀ (f : Nat) {la : Act} {pend : List PE} {D : List Nat}, WayT R F n P ops vs Q tab us listed a la w pend D f → wpOpIn F n P ops Q i (wpAnyIn F n P .any ops Q fuel (listed.setIfInBounds i true)) a w := by
        intro f
        induction f with
        | zero =>
          intro la pend D h
          have hD : i ∈ D := by
            refine Classical.byContradiction fun hno => ?_
            have h1 := nodup_le_len ops.size (i :: D) (fun x hx => by
              rcases List.mem_cons.1 hx with rfl | hx
              · exact hilt
              · exact h.dlt x hx) (List.nodup_cons.2 ⟨hno, h.dnd⟩)
            have h2 := h.len
            rw [List.length_cons] at h1
            omega
          exact doP h (h.dP i hD hius)
        | succ f ihf =>
          intro la pend D h
          by_cases hp : ∃ p ∈ pend, p.i = i
          · exact doP h hp
          have hiD : i ∉ D := fun hD => hp (h.dP i hD hius)
          have hr := h.rest
          unfold eagT at hr
          have notD : ∀ {p : PE}, p ∈ pend → ∀ {j : Nat} {o : Oper}, j ∉ D → anc tab p.i j = false := by
            intro p hp j o hj
            cases ha : anc tab p.i j with
            | false => rfl
            | true =>
              exfalso
              have hpD := (h.punl p hp).2.1
              have hpo := h.inv.ho p hp
              exact hj (anc_done htab (Ls := fun k => k ∈ D) (fun i o ho hi k hk => h.closedD i o ho hi k hk) p.i j p.o hpo (h.closedD p.i p.o hpo hpD) ha (fun k hk => h.dlt k hk))
          split at hr
          · rename_i k hk
            have hkr : rdyB ops.toList D k = true := List.find?_some hk
            have hkv : k ∈ vs := List.mem_of_find?_eq_some hk
            obtain ⟨hkD, ok, hok0, hkb⟩ := rdyB_iff.1 hkr
            obtain ⟨ok1, hok', v, hv, hab, he⟩ := hr
            have eok : ok = ok1 := by rw [hok0] at hok'; exact Option.some.inj hok'
            subst eok
            have hkus : k ∈ us := Classical.byContradiction fun hno => hkD (h.dA k (Array.getElem?_eq_some_iff.1 hok0).1 hno)
            have hpk : ∀ p ∈ pend, p.i ≠ k := fun p hp he => hkD (he ▸ (h.punl p hp).2.1)
            have hpair : ∀ p ∈ pend, pairOK ops tab (p.i, 0) (k, 0) = true := fun p hp =>
              pairS_pair (hstat p.i (h.punl p hp).2.2 k (Array.getElem?_eq_some_iff.1 hok0).1 (hpk p hp)) (notD hp (o := ok) hkD)
            have hdst : ∀ p ∈ pend, ∀ d, p.o.dst = some d → ok.dst ≠ some d := fun p hp => (pair_spec (p := (p.i, 0)) (q := (k, 0)) (h.inv.ho p hp) hok0 (hpair p hp)).1
            refine ihf (la := la.put ok.dst v) (pend := ⟨k, ok, v, la, w⟩ :: pend) (D := k :: D) ⟨h.und, h.size, h.uiff, h.ult, List.nodup_cons.2 ⟨hkD, h.dnd⟩, by rw [List.length_cons]; have := h.len; omega, fun j hj hju => List.mem_cons_of_mem _ (h.dA j hj hju), ?_, ?_, ?_, ?_, ?_, h.closed, by rw [put_defers]; exact h.defers, by rw [put_size]; exact h.tsize, ?_, ⟨⟨hok0, hv, hab, R.refl _, ?_, ?_, hpair⟩, ?_⟩, he⟩
            · intro j hj hju
              rcases List.mem_cons.1 hj with rfl | hj
              · exact ⟨_, List.mem_cons_self, rfl⟩
              · obtain ⟨p, hp, hpj⟩ := h.dP j hj hju
                exact ⟨p, List.mem_cons_of_mem _ hp, hpj⟩
            · intro j hj
              rcases List.mem_cons.1 hj with rfl | hj
              · exact (Array.getElem?_eq_some_iff.1 hok0).1
              · exact h.dlt j hj
            · intro p hp
              rcases List.mem_cons.1 hp with rfl | hp
              · exact ⟨hkus, List.mem_cons_self, hkv⟩
              · exact ⟨(h.punl p hp).1, List.mem_cons_of_mem _ (h.punl p hp).2.1, (h.punl p hp).2.2⟩
            · refine List.nodup_cons.2 ⟨fun hm => ?_, h.pnd⟩
              obtain ⟨p, hp, hpi⟩ := List.mem_map.1 hm
              exact hpk p hp hpi
            · intro j o ho hj q hq
              rcases List.mem_cons.1 hj with rfl | hj
              · rw [hok0] at ho; cases ho
                exact List.mem_cons_of_mem _ (hkb q hq)
              · exact List.mem_cons_of_mem _ (h.closedD j o ho hj q hq)
            · intro d hd
              rw [put_other _ _ (hd _ List.mem_cons_self)]
              exact h.agree d fun p hp => hd p (List.mem_cons_of_mem _ hp)
            · intro d hd
              simp only at hd
              rw [hd, put_get, if_pos rfl]
              have := put_size la (some d) v
              rw [this]
            · intro d hd
              by_cases hx : ∃ p ∈ pend, p.o.dst = some d
              · obtain ⟨p, hp, hpd⟩ := hx
                exact .inl ⟨p, hp, hpd, by rw [put_other _ _ (hdst p hp d hpd)]⟩
              · exact .inr ⟨fun p hp hpd => hx ⟨p, hp, hpd⟩, (h.agree d fun p hp hpd => hx ⟨p, hp, hpd⟩).symm⟩
            · exact PInv.step (by rw [put_size]) h.inv (fun p hp d hd => by rw [put_other _ _ (hdst p hp d hd)]) (fun p hp d hd => rfl) (R.refl _)
          · -- an effect: the one that comes up is among those that can
            have hcand : i ∈ cands ops.toList D := by
              unfold cands
              refine List.mem_filter.2 ⟨List.mem_range.2 (by simpa using hilt), rdyB_iff.2 ⟨hiD, oi, hoi, fun k hk => ?_⟩⟩
              obtain ⟨h1, h2⟩ := hibus k hk
              exact h.dA k h1 h2
            have hop := hr i hcand
            have hap : ∀ p ∈ pend, (∀ d, p.o.dst = some d → d ∉ oi.looksAt ops) ∧ (∀ d, oi.dst = some d → d ∉ p.o.looksAt ops) ∧ ∀ d, p.o.dst = some d → oi.dst ≠ some d := by
              intro p hp'
              have hne : p.i ≠ i := fun e => hp ⟨p, hp', e⟩
              have h1 := pair_spec (p := (p.i, 0)) (q := (i, 0)) (h.inv.ho p hp') hoi (pairS_pair (hstat p.i (h.punl p hp').2.2 i hilt hne) (notD hp' (o := oi) hiD))
              have h2 := h1.2 (noanc p.i (h.punl p hp').1)
              exact ⟨h2.2.2.1, h2.2.2.2, h1.1⟩
            have hsee : Sees ops oi a la := fun d hd => h.agree d fun p hp hpd => (hap p hp).1 d hpd hd
            refine op_move hoi hpl hsee h.defers hQ hop ?_
            intro v w' ds hk
            obtain ⟨hb, he⟩ := hk
            refine ih (us := us.erase i) (la := { la with defers := ds }.put oi.dst v) (pend := pend) (D := i :: D) (f := f) hlen' ⟨hund', hsz', huiff', hult', List.nodup_cons.2 ⟨hiD, h.dnd⟩, by rw [List.length_cons]; have := h.len; omega, ?_, ?_, ?_, ?_, h.pnd, ?_, hclosed', by rw [put_defers, put_defers], by rw [put_size, put_size]; exact h.tsize, ?_, ?_, he⟩
            · intro k hk hku
              by_cases e : k = i
              · subst e; exact List.mem_cons_self
              · exact List.mem_cons_of_mem _ (h.dA k hk fun hx => hku (hmem' k hx e))
            · intro k hkD hku
              rcases List.mem_cons.1 hkD with rfl | hkD
              · exact absurd rfl (hne' _ hku)
              · exact h.dP k hkD (List.mem_of_mem_erase hku)
            · intro j hj
              rcases List.mem_cons.1 hj with rfl | hj
              · exact hilt
              · exact h.dlt j hj
            · intro p hp'
              exact ⟨hmem' p.i (h.punl p hp').1 (fun e => hp ⟨p, hp', e⟩), List.mem_cons_of_mem _ (h.punl p hp').2.1, (h.punl p hp').2.2⟩
            · intro j o ho hj q hq
              rcases List.mem_cons.1 hj with rfl | hj
              · rw [hoi] at ho; cases ho
                obtain ⟨h1, h2⟩ := hibus q hq
                exact List.mem_cons_of_mem _ (h.dA q h1 h2)
              · exact List.mem_cons_of_mem _ (h.closedD j o ho hj q hq)
            · intro d hd
              by_cases hdd : oi.dst = some d
              · rw [hdd, put_get, put_get, if_pos rfl, if_pos rfl]
                show (if d < a.tmps.size then some v else none) = if d < la.tmps.size then some v else none
                rw [h.tsize]
              · rw [put_other _ _ hdd, put_other _ _ hdd]
                exact h.agree d hd
            · refine PInv.step (by rw [put_size]) h.inv (fun p hp d hd => ?_) (fun p hp d hd => ?_) hb
              · rw [put_other _ _ ((hap p hp).2.2 d hd)]
              · rw [put_other _ _ (fun hx => (hap p hp).2.1 d hx hd)]
      exact main f h

/-- **A region that draws its order: whatever makes memory in any order.** -/
theorem wpIn_region_eagT {R : WR} {F : Fence} {n : Nat} {ops : Array Oper} {Q : Exit → Act → World → Prop} {vs tab : List Nat} {id : Nat} {a : Act} {w : World} (hm : P.follows .mixedOrders = true) (hok : statOK ops vs tab = true) (hQ : ∀ c a w, ¬ Q (.panic c) a w)
    (h : eagT R F n P ops vs Q ops.size [] a { w with drawn := w.drawn + 1 }) : (Code.region id ops true).wpIn F n P Q a w := by
  refine wpIn_region_any hm ?_
  refine way_anyT hok hQ ops.size (us := List.range ops.size) (la := a) (pend := []) (D := []) (f := ops.size) (by simp) ⟨List.nodup_range, by simp, ?_, (fun i hi => List.mem_range.1 hi), List.nodup_nil, by simp, (fun i hi hn => absurd (List.mem_range.2 hi) hn), (fun i hi => (by cases hi)), (fun i hi => (by cases hi)), (fun p hp => (by cases hp)), List.nodup_nil, (fun i o ho hi => (by cases hi)), ?_, rfl, rfl, fun _ _ => rfl, trivial, h⟩
  · intro i hi
    simp [Array.getD, hi]
  · intro i o ho hl
    simp [Array.getD] at hl

/-! ### Its verification condition -/
/-- Two things to show. -/
inductive VBoth (A B : Prop) : Prop
  | mk (h : A) (k : B)
def allC : List Nat → (Nat → Prop) → Prop
  | [], _ => VStuck 220
  | i :: r, p => match r with
    | [] => p i
    | _ => VBoth (p i) (allC r p)
theorem allC_mem : ∀ {l : List Nat} {p : Nat → Prop}, allC l p → ∀ i ∈ l, p i
  | [], _, h, _, _ => by cases h
  | [j], p, h, i, hi => by simp at hi; subst hi; exact h
  | j :: k :: r, p, h, i, hi => by
    cases h with
    | mk h1 h2 =>
      rcases List.mem_cons.1 hi with rfl | hi
      · exact h1
      · exact allC_mem (l := k :: r) h2 i hi
def vcT (C : VX) (P : Program) (ops : List Oper) (vs : List Nat) (M0 : Mem) : Nat → List Nat → St → (St → Prop) → Prop
  | 0, _, st, k => k st
  | f + 1, D, st, k => match nextV ops vs D with
    | some i => match ops[i]? with
      | some o => guardV ops st o (fun st => barV C M0 st o fun s => st.putv o.dst s fun st' => vcT C P ops vs M0 f (i :: D) st' k) (fun st => st.putv o.dst (.v (.tuple #[])) fun st' => vcT C P ops vs M0 f (i :: D) st' k)
      | none => VStuck 221
    | none => allC (cands ops D) fun i => match ops[i]? with
      | some o => guardV ops st o (fun st => step C P st o fun st' => st'.withM fun M' => VFact (M0.le M') (vcT C P ops vs M0 f (i :: D) st' k)) (fun st => st.putv o.dst (.v (.tuple #[])) fun st' => vcT C P ops vs M0 f (i :: D) st' k)
      | none => VStuck 222
theorem vcT_sound {C : VX} (hC : VXOK P C) {r : Option Nat} {n : Nat} {κ : Yt → Bs → Prop} {fx : Nat → Prop} {tm : Array Value} {ops : Array Oper} {vs : List Nat} {k : St → Prop} {G : Gh} {Q : Exit → Act → World → Prop} (hQ : ∀ a W, KK κ G k a W → Keep fx tm a → Q .normal a W) (hw : ∀ o ∈ ops.toList, ∀ d, o.dst = some d → ¬ fx d) {B : Bs} {M0 : Mem} (hlow : ∀ b, b < B.n₀ → M0 b = B.M₀ b) :
    ∀ (f : Nat) {D : List Nat} {ρ : Env} {st : St} {a : Act} {W : World}, vcT C P ops.toList vs M0 f D st k → κ st.G.Y B → Sat B.n₀ B.w B.M₀ ρ st a W → G.lq st.G → Keep fx tm a → M0.le st.M → eagT (WR.keep (KeepW B M0)) (Fw r) n P ops vs Q f D a W := by
  intro f
  induction f with
  | zero => intro D ρ st a W hk hκ h hG hkp _; exact hQ a W ⟨B, ρ, st, hκ, h, hG, hk⟩ hkp
  | succ f ih =>
    intro D ρ st a W hk hκ h hG hkp hle
    have putM : ∀ (st : St) (d : Option Tmp) (s : SV), (st.put d s).M = st.M := fun st d s => by cases d <;> rfl
    have kw : ∀ {ρ' : Env} {st' : St} {a' : Act} {W' : World}, Sat B.n₀ B.w B.M₀ ρ' st' a' W' → M0.le st'.M → KeepW B M0 W' := fun h hl => ⟨h.h.below, h.h.size, fun b o hb => h.h.mem b o (hl b o hb)⟩
    have skip : ∀ {i : Nat} {o : Oper}, (∀ d, o.dst = some d → ¬ fx d) → ∀ {st1 : St}, Sat B.n₀ B.w B.M₀ ρ st1 a W → st1.G = st.G → M0.le st1.M → (st1.putv o.dst (.v (.tuple #[])) fun st' => vcT C P ops.toList vs M0 f (i :: D) st' k) → eagT (WR.keep (KeepW B M0)) (Fw r) n P ops vs Q f (i :: D) (a.put o.dst undef) W := by
      intro i o hwo st1 h1 hG1 hM1 hB
      obtain ⟨j1, j2⟩ := putv_elim hB h1 (by trivial)
      exact ih j2 (by rw [put_G, hG1]; exact hκ) j1 (by rw [put_G, hG1]; exact hG) (hkp.put hwo _) (by rw [putM]; exact hM1)
    unfold vcT at hk
    unfold eagT
    split at hk
    · rename_i i hn
      split at hk
      · rename_i o ho
        have ho' : ops[i]? = some o := by simpa using ho
        have hwo := hw o (List.mem_of_getElem? ho)
        refine ⟨o, ho', ?_⟩
        obtain ⟨st1, h1, hG1, hM1, hcase⟩ := guard_soundM h hk
        have hM1' : M0.le st1.M := by rw [hM1]; exact hle
        rcases hcase with ⟨hw', hA⟩ | ⟨hw', hB⟩
        · obtain ⟨sl, ow, nx, M1, nt, G1⟩ := st1
          have hbH : ∀ W', KeepW B M0 W' → SatH B.n₀ B.w B.M₀ ρ ⟨sl, [], nx, M0, nt, ⟨fun _ => none, none, fun _ => none⟩⟩ W' := fun W' hk =>
            ⟨hk.1, hk.2.1, hk.2.2, fun id e he => (by cases he), fun i j ei ej hi => (by cases hi), fun i e b hi => (by cases hi), fun b o hb => (by cases hb), hlow, fun b o hb => (by cases hb)⟩
          have hbs : Sat B.n₀ B.w B.M₀ ρ ⟨sl, [], nx, M0, nt, ⟨fun _ => none, none, fun _ => none⟩⟩ { a with defers := [] } W := ⟨hbH W (kw h1 hM1'), h1.nt, h1.sl, trivial⟩
          obtain ⟨_, s, q1, q2, q3⟩ := val_sound hC hA hbs
          obtain ⟨j1, j2⟩ := putv_elim q3 h1 q1
          exact ⟨s.den ρ, fun W' hb => .inl ⟨hw', q2 W' (hbH W' (hb (kw h1 hM1')))⟩, fun _ _ _ _ => trivial, ih j2 (by rw [put_G, hG1]; exact hκ) j1 (by rw [put_G, hG1]; exact hG) (hkp.put hwo _) (by rw [putM]; exact hM1')⟩
        · exact ⟨undef, fun W' hb => .inr ⟨hw', rfl⟩, fun _ _ _ _ => trivial, skip hwo h1 hG1 hM1' hB⟩
      · cases hk
    · rename_i hn
      intro i hi
      have hk := allC_mem hk i hi
      split at hk
      · rename_i o ho
        have ho' : ops[i]? = some o := by simpa using ho
        have hwo := hw o (List.mem_of_getElem? ho)
        obtain ⟨st1, h1, hG1, hM1, hcase⟩ := guard_soundM h hk
        have hM1' : M0.le st1.M := by rw [hM1]; exact hle
        unfold wpOpIn
        simp only [ho']
        rcases hcase with ⟨hw', hA⟩ | ⟨hw', hB⟩
        · rw [if_pos hw']
          refine Oper.wpIn_mono ?_ (op_keep (step_sound hC hA h1) hwo hkp)
          rintro a' W' ⟨⟨ρ', st', g1, g2, g3⟩, hkp'⟩
          cases withM_iff g3 with
          | mk hle' hk' => exact ⟨fun _ => kw g1 hle', ih hk' (by rw [g2.2, hG1]; exact hκ) g1 (hG.trans (by rw [← hG1]; exact g2.1)) hkp' hle'⟩
        · rw [if_neg (by rw [hw']; exact Bool.false_ne_true)]
          exact ⟨fun _ _ => trivial, fun h => h, skip hwo h1 hG1 hM1' hB⟩
      · cases hk
/-- Which operations yield a value. -/
def valsOf (ops : List Oper) : List Nat := (List.range ops.length).filter fun i => match ops[i]? with | some o => isVal ops o | none => false
/-- A region, its operations in any order; the ways come together in one state. -/
theorem VCode.draws {C : VX} (hC : VXOK P C) {id : Nat} {ops : Array Oper} {st : St} {Q : Ex → St → Prop} (ds : List Nat) (hok : statOK ops (valsOf ops.toList) (tabOf ops.toList) = true) (S : Type) (inv : S → St) (pf : S → Prop)
    (walk : frzSl st ds fun st1 => st1.withM fun M0 => vcT C P ops.toList (valsOf ops.toList) M0 ops.toList.length [] st1 fun st' => ∃ s, pf s ∧ Wk st' (inv s))
    (rest : st.withYf fun _ f => ∀ s m, pf s → (inv s).flatG m f (Q .normal)) : VCode P (.region id ops true) st Q := by
  refine ⟨fun r n κ B ρ a W fx tm hY hr hκ h hwr hkp => ?_⟩
  obtain ⟨st1, h1, hG1, hk⟩ := frzSl_sound h walk
  replace hk := withM_iff hk
  refine wpIn_region_eagT (R := WR.keep (KeepW B st1.M)) (vs := valsOf ops.toList) (tab := tabOf ops.toList) hC.mixed hok ?_ ?_
  · rintro c a' w' ⟨⟨ex, he, _⟩, _⟩; cases he
  · rw [show ops.toList.length = ops.size from Array.length_toList] at hk
    refine vcT_sound hC (G := st1.G) (k := fun st' => ∃ s, pf s ∧ Wk st' (inv s)) (fun a W hK hkp => ⟨⟨.normal, rfl, ?_⟩, hkp⟩) hwr h1.h.mlow _ hk (by rw [hG1]; exact hκ) (h1.grow (W' := { W with drawn := W.drawn + 1 }) (Below.drew (Below.refl _ W)) (M' := st1.M) h1.h.mem (fun _ _ => rfl)) (Gh.lq_refl _) hkp (Mem.le_refl _)
    obtain ⟨B', ρ', st', hκ', g1, g2, s, hp, hwk⟩ := hK
    obtain ⟨ρ1, hs1⟩ := hwk.imp st'.G _ _ _ ρ' a W g1
    have hq := flatG_iff (withYf_iff rest s st'.G.m hp)
    have hf : st'.G.f = st.G.f := by rw [g2.2, hG1]
    refine ⟨B', ρ1, _, ?_, ?_, ?_, hq⟩
    · rw [← hwk.y]; exact hκ'
    · rw [← hwk.y, ← hf]; exact hs1
    · exact ⟨by rw [← hG1]; exact g2.1, rfl⟩
end Go.V

/- HullFurther: with a further place a hull has no lesser area; the same hull exactly if it had the place; and, with at least three corners, the same area exactly then. No conditions beyond the statement's own. -/
namespace Go.Proofs.Ytaobaeiohjgdcaa.hullFurther
open Go Go.V Go.RowKit
theorem plain {l p q : List Pt} {x : Pt} (h : Hl l p) (hV : validB p = true) (k : Hl (l ++ [x]) q) (hVq : validB q = true) (hpl : ∀ y ∈ l ++ [x], placeB y = true) :
    decide (p = q) = hasB p x ∧ areaB p ≤ areaB q ∧ (hasB p x = false → ¬ p.length < 3 → areaB p ≠ areaB q) := by
  have e1 : hasB p x = true → p = q := fun hx => by
    refine Hl.unique (hl_of_has hV (fun y hy => ?_) (fun y hy => List.mem_append_left _ (h.sub y hy))) k
    rcases List.mem_append.1 hy with hy | hy
    · exact h.has hy
    · simp at hy; subst hy; exact hx
  have e2 : p = q → hasB p x = true := fun e => by rw [e]; exact k.has (by simp)
  have hT : ∀ y, y ∈ l ++ [x] ↔ y ∈ l ∨ y = x := fun y => by simp
  refine ⟨?_, ?_, ?_⟩
  · rw [Bool.eq_iff_iff, decide_eq_true_eq]
    exact ⟨e2, e1⟩
  · cases hx : hasB p x with
    | true => rw [e1 hx]; exact Int.le_refl _
    | false =>
      by_cases h3 : p.length < 3
      · rw [area_small h3]; exact area_nonneg hVq
      · exact Int.le_of_lt (area_grows h k hT hV hVq hpl h3 hx)
  · intro hx h3
    have := area_grows h k hT hV hVq hpl h3 hx
    omega
set_option maxRecDepth 20000 in
set_option maxHeartbeats 2000000 in
theorem law_fn (v0 : Value) (l : List Pt) (x1 x2 : Int) (M : Mem) (h0 : Pts M v0 l) (g0 : i64P l) (i1 : i64r x1) (i2 : i64r x2) : V.Fn Try.prog 12 [v0, .agg #[.int .i64 x1, .int .i64 x2]] M fun rs _ => rs = [.bool true] := by
  obtain ⟨ad, c, rfl⟩ := h0.shape
  obtain ⟨⟨p, e⟩, hr⟩ : ∃ r, hullB l = r := ⟨_, rfl⟩
  obtain ⟨⟨q, f⟩, hr2⟩ : ∃ r, hullB (l ++ [(x1, x2)]) = r := ⟨_, rfl⟩
  have g2 : i64P (l ++ [(x1, x2)]) := i64P_of fun y hy => by
    rcases List.mem_append.1 hy with hy | hy
    · obtain ⟨i, hi, rfl⟩ := mem_gp hy
      exact g0 i hi
    · simp at hy; subst hy; exact ⟨i1, i2⟩
  refine Fn.of_vc cxOK Try.func12 rfl rfl rfl ?_
  repeat (first | refine VIf.tt ?_ | refine VIf.ff ?_)
  refine VFn.mk _ (head03_fn M) ?_
  rintro rs M1 hM1 rfl
  repeat (first | refine VIf.tt ?_ | refine VIf.ff ?_)
  refine VIf.mk (fun _ => ?_) (fun hl => ?_)
  · repeat (first | refine VIf.tt ?_ | refine VIf.ff ?_)
    exact VFact.mk rfl trivial
  have hl : l.length ≤ 79 := by have := of_decide_eq_false hl; omega
  repeat (first | refine VIf.tt ?_ | refine VIf.ff ?_)
  refine VFn.mk _ (Hull_is (h0.le hM1) g0 hr) ?_
  rintro rs M2 hM2 ⟨u, rfl, hu⟩
  have m2 := hM1.trans hM2
  obtain ⟨ud, uc, rfl⟩ := hu.shape
  repeat (first | refine VIf.tt ?_ | refine VIf.ff ?_)
  refine VDraw.code ?_
  repeat (first | refine VIf.tt ?_ | refine VIf.ff ?_)
  refine VCode.draws cxOK [3] (by kernel_rfl) (Mem × Nat × Value)
    (fun s => ⟨[(3, .v (.pointer (some ⟨s.2.1, 0, none⟩))), (5, .v (.bool true)), (6, .v (.slice ud p.length uc)), (7, .v (.int .i64 e)), (8, .v s.2.2), (9, .v (.int .i64 f))], [], 0, s.1, 94, ⟨fun _ => none, none, fun _ => none⟩⟩)
    (fun s => M2.le s.1 ∧ Pts s.1 s.2.2 q ∧ s.1 s.2.1 = some (.cells #[.int .i64 x1, .int .i64 x2] 39 (0, 0))) ?_ ?_
  · repeat (first | refine VIf.tt ?_ | refine VIf.ff ?_)
    refine VFzB.mk fun z B1 M3 hM3 hB1 => ?_
    have m3 := m2.trans hM3
    repeat (first | refine VIf.tt ?_ | refine VIf.ff ?_)
    refine VReads.mk [.int .i64 x1, .int .i64 x2] rfl (fun j v hj => cellAt hB1 j (by simpa using hj)) ?_
    refine VBoth.mk ?_ ?_
    · repeat (first | refine VIf.tt ?_ | refine VIf.ff ?_)
      refine VFact.mk (Mem.le_refl _) ?_
      refine VBoth.mk ?_ ?_
      · repeat (first | refine VIf.tt ?_ | refine VIf.ff ?_)
        refine VSl.mk l.length (cellsP l) (h0.le m3) ?_
        repeat (first | refine VIf.tt ?_ | refine VIf.ff ?_)
        refine VFact.mk (by simp only; omega) ?_
        repeat (first | refine VIf.tt ?_ | refine VIf.ff ?_)
        refine VFact.mk (Mem.le_refl _) ?_
        repeat (first | refine VIf.tt ?_ | refine VIf.ff ?_)
        refine VFact.mk (Mem.le_refl _) ?_
        repeat (first | refine VIf.tt ?_ | refine VIf.ff ?_)
        refine VFact.mk (by simp only; omega) ?_
        repeat (first | refine VIf.tt ?_ | refine VIf.ff ?_)
        refine VFact.mk (Mem.le_refl _) ?_
        repeat (first | refine VIf.tt ?_ | refine VIf.ff ?_)
        refine VFz.mk fun x B2 M4 hM4 hx => ?_
        have hx : Pts M4 x (l ++ [(x1, x2)]) := by
          have e1 : cellsP (l ++ [(x1, x2)]) = ([] ++ cellsP l) ++ ([.int .i64 x1, .int .i64 x2] ++ []) := by rw [cells_app1]; rfl
          unfold Pts
          rw [e1, show (l ++ [(x1, x2)]).length = 0 + l.length + 1 by simp]
          exact hx
        repeat (first | refine VIf.tt ?_ | refine VIf.ff ?_)
        refine VFn.mk _ (Hull_is hx g2 hr2) ?_
        rintro rs M5 hM5 ⟨w, rfl, hw⟩
        repeat (first | refine VIf.tt ?_ | refine VIf.ff ?_)
        refine VFact.mk (hM4.trans hM5) ?_
        exact ⟨(M5, B1, w), ⟨(hM3.trans hM4).trans hM5, hw, (hM4.trans hM5) _ _ hB1⟩, (Wk.mk' id (by repeat' constructor) (by repeat' constructor) (injOK_id _) rfl rfl rfl)⟩
      · repeat (first | refine VIf.tt ?_ | refine VIf.ff ?_)
        refine VFact.mk (Mem.le_refl _) ?_
        repeat (first | refine VIf.tt ?_ | refine VIf.ff ?_)
        refine VSl.mk l.length (cellsP l) (h0.le m3) ?_
        repeat (first | refine VIf.tt ?_ | refine VIf.ff ?_)
        refine VFact.mk (by simp only; omega) ?_
        repeat (first | refine VIf.tt ?_ | refine VIf.ff ?_)
        refine VFact.mk (Mem.le_refl _) ?_
        repeat (first | refine VIf.tt ?_ | refine VIf.ff ?_)
        refine VFact.mk (by simp only; omega) ?_
        repeat (first | refine VIf.tt ?_ | refine VIf.ff ?_)
        refine VFact.mk (Mem.le_refl _) ?_
        repeat (first | refine VIf.tt ?_ | refine VIf.ff ?_)
        refine VFz.mk fun x B2 M4 hM4 hx => ?_
        have hx : Pts M4 x (l ++ [(x1, x2)]) := by
          have e1 : cellsP (l ++ [(x1, x2)]) = ([] ++ cellsP l) ++ ([.int .i64 x1, .int .i64 x2] ++ []) := by rw [cells_app1]; rfl
          unfold Pts
          rw [e1, show (l ++ [(x1, x2)]).length = 0 + l.length + 1 by simp]
          exact hx
        repeat (first | refine VIf.tt ?_ | refine VIf.ff ?_)
        refine VFn.mk _ (Hull_is hx g2 hr2) ?_
        rintro rs M5 hM5 ⟨w, rfl, hw⟩
        repeat (first | refine VIf.tt ?_ | refine VIf.ff ?_)
        refine VFact.mk (hM4.trans hM5) ?_
        exact ⟨(M5, B1, w), ⟨(hM3.trans hM4).trans hM5, hw, (hM4.trans hM5) _ _ hB1⟩, (Wk.mk' id (by repeat' constructor) (by repeat' constructor) (injOK_id _) rfl rfl rfl)⟩
    · repeat (first | refine VIf.tt ?_ | refine VIf.ff ?_)
      refine VFact.mk (Mem.le_refl _) ?_
      repeat (first | refine VIf.tt ?_ | refine VIf.ff ?_)
      refine VFact.mk (Mem.le_refl _) ?_
      repeat (first | refine VIf.tt ?_ | refine VIf.ff ?_)
      refine VSl.mk l.length (cellsP l) (h0.le m3) ?_
      repeat (first | refine VIf.tt ?_ | refine VIf.ff ?_)
      refine VFact.mk (by simp only; omega) ?_
      repeat (first | refine VIf.tt ?_ | refine VIf.ff ?_)
      refine VFact.mk (Mem.le_refl _) ?_
      repeat (first | refine VIf.tt ?_ | refine VIf.ff ?_)
      refine VFact.mk (by simp only; omega) ?_
      repeat (first | refine VIf.tt ?_ | refine VIf.ff ?_)
      refine VFact.mk (Mem.le_refl _) ?_
      repeat (first | refine VIf.tt ?_ | refine VIf.ff ?_)
      refine VFz.mk fun x B2 M4 hM4 hx => ?_
      have hx : Pts M4 x (l ++ [(x1, x2)]) := by
        have e1 : cellsP (l ++ [(x1, x2)]) = ([] ++ cellsP l) ++ ([.int .i64 x1, .int .i64 x2] ++ []) := by rw [cells_app1]; rfl
        unfold Pts
        rw [e1, show (l ++ [(x1, x2)]).length = 0 + l.length + 1 by simp]
        exact hx
      repeat (first | refine VIf.tt ?_ | refine VIf.ff ?_)
      refine VFn.mk _ (Hull_is hx g2 hr2) ?_
      rintro rs M5 hM5 ⟨w, rfl, hw⟩
      repeat (first | refine VIf.tt ?_ | refine VIf.ff ?_)
      refine VFact.mk (hM4.trans hM5) ?_
      exact ⟨(M5, B1, w), ⟨(hM3.trans hM4).trans hM5, hw, (hM4.trans hM5) _ _ hB1⟩, (Wk.mk' id (by repeat' constructor) (by repeat' constructor) (injOK_id _) rfl rfl rfl)⟩
  · rintro ⟨M3, B1, w⟩ m ⟨hM3, hw, hB1⟩
    have hM3 : M2.le M3 := hM3
    have hw : Pts M3 w q := hw
    have hB1 : M3 B1 = some (.cells #[.int .i64 x1, .int .i64 x2] 39 (0, 0)) := hB1
    obtain ⟨wd, wc, rfl⟩ := hw.shape
    repeat (first | refine VIf.tt ?_ | refine VIf.ff ?_)
    refine VIf.mk (fun _ => ?_) (fun he => ?_)
    · repeat (first | refine VIf.tt ?_ | refine VIf.ff ?_)
      exact VFact.mk rfl trivial
    have he : e = 0 := bne_eq_false_iff_eq.1 he
    repeat (first | refine VIf.tt ?_ | refine VIf.ff ?_)
    refine VIf.mk (fun _ => ?_) (fun hf => ?_)
    · repeat (first | refine VIf.tt ?_ | refine VIf.ff ?_)
      exact VFact.mk rfl trivial
    have hf : f = 0 := bne_eq_false_iff_eq.1 hf
    rcases hull_split hr with ⟨_, hh, hV, hall, _, _⟩ | ⟨he', _⟩
    rotate_left
    · exact absurd he he'
    rcases hull_split hr2 with ⟨_, kk, kV, kall, _, _⟩ | ⟨he', _⟩
    rotate_left
    · exact absurd hf he'
    have hall2 : ∀ y ∈ l ++ [(x1, x2)], placeB y = true := fun y hy => List.all_eq_true.1 kall y hy
    have hPx : placeB (x1, x2) = true := hall2 _ (by simp)
    obtain ⟨b, hb⟩ : ∃ b, hasB p (x1, x2) = b := ⟨_, rfl⟩
    obtain ⟨n, hn⟩ : ∃ n, areaB p = n := ⟨_, rfl⟩
    obtain ⟨k, hk⟩ : ∃ k, areaB q = k := ⟨_, rfl⟩
    obtain ⟨c1, c2, c3⟩ := plain hh hV kk kV hall2
    rw [hb] at c1 c3
    rw [hn, hk] at c2 c3
    repeat (first | refine VIf.tt ?_ | refine VIf.ff ?_)
    refine VReads.mk [.int .i64 x1, .int .i64 x2] rfl (fun j v hj => cellAt hB1 j (by simpa using hj)) ?_
    repeat (first | refine VIf.tt ?_ | refine VIf.ff ?_)
    refine VFn.mk _ (hasB_is (x := (x1, x2)) (hu.le hM3) (i64P_valid hV) (place_64 hPx) (hasE_is hV hPx hb)) ?_
    rintro rs M4 hM4 rfl
    have m4 := hM3.trans hM4
    repeat (first | refine VIf.tt ?_ | refine VIf.ff ?_)
    refine VFn.mk _ (Area_is (hu.le m4) (i64P_valid hV) hV hn) ?_
    rintro rs M5 hM5 rfl
    have m5 := m4.trans hM5
    repeat (first | refine VIf.tt ?_ | refine VIf.ff ?_)
    refine VFn.mk _ (Area_is (hw.le (hM4.trans hM5)) (i64P_valid kV) kV hk) ?_
    rintro rs M6 hM6 rfl
    have m6 := m5.trans hM6
    repeat (first | refine VIf.tt ?_ | refine VIf.ff ?_)
    repeat (first | refine VIf.tt ?_ | refine VIf.ff ?_)
    refine VIf.mk (fun h => absurd (of_decide_eq_true h) (by omega)) (fun _ => ?_)
    have hS := Same_fn _ _ p q M6 (hu.le m6) (hw.le ((hM4.trans hM5).trans hM6))
    rw [c1] at hS
    repeat (first | refine VIf.tt ?_ | refine VIf.ff ?_)
    refine VFn.p hS ?_
    repeat (first | refine VIf.tt ?_ | refine VIf.ff ?_)
    refine VIf.mk (fun h => absurd h (by cases b <;> simp)) (fun _ => ?_)
    repeat (first | refine VIf.tt ?_ | refine VIf.ff ?_)
    refine VIf.mk (fun _ => ?_) (fun h3 => ?_)
    · repeat (first | refine VIf.tt ?_ | refine VIf.ff ?_)
      exact VFact.mk rfl trivial
    have h3 : ¬ p.length < 3 := by have := of_decide_eq_false h3; omega
    repeat (first | refine VIf.tt ?_ | refine VIf.ff ?_)
    refine VFact.mk ?_ trivial
    show [Value.bool (b == (k == n))] = _
    cases b with
    | true =>
      have e : p = q := of_decide_eq_true c1
      subst e
      rw [hn] at hk
      rw [hk]; simp
    | false =>
      have := c3 rfl h3
      have : (k == n) = false := beq_eq_false_iff_ne.2 fun h => this h.symm
      rw [this]; rfl
end Go.Proofs.Ytaobaeiohjgdcaa.hullFurther

namespace Go.Proofs.Ytaobaeiohjgdcaa.hullFurther
open Go Go.V Go.RowKit Go.ChangeShapes Go.WideShapes Go.ChangeAt
set_option linter.unusedVariables false
set_option maxRecDepth 100000 in
theorem lifted (os : Os) (started : os.Started) (H : Type) (enc : TypeId × Value → H) :
    ReturnsInHanded {} Try.checked os 12 .any (Rows.hullFurtherSpec.pre6 enc Try.prog Try.f12 Rows.hullFurtherRow.domain false) (Rows.hullFurtherSpec.post enc Try.prog Try.f12 false true false false) := by
  refine returnsInHanded_of_change (C := Try.checked) own started (by kernel_rfl) Try.func12
    (ChangeSpec.witness6 (enc := enc) (C := Try.checked) false ⟨#[], #[.slice none 0 0, .agg #[.int .i64 0, .int .i64 0]], []⟩ 8 (by kernel_rfl) (by kernel_rfl) (by kernel_rfl) (by kernel_rfl)) ?_
  intro W base args ds gs before hval0 hW hcnd _
  have hval : ∀ (j : Nat) t v, Try.f12.params[j]? = some t → args[j]? = some v → Value.okWide Try.prog W .any base t v := hval0
  have hW' := hW
  obtain ⟨p, q, hA0, hV, rfl, hfz, hnd⟩ := hW
  have hA : DataW.TrodAll enc Try.prog W 0 (fun _ => true) true Try.f12.params.toList args.toList ds p := hA0
  have hA1 := hA
  rw [Try.params12] at hA hval
  obtain ⟨v0, vs0, d0, ds0, p0, q0, hargs, rfl, rfl, h0, r0⟩ := trodAll_cons hA
  obtain ⟨v1, vs1, d1, ds1, p1, q1, rfl, rfl, rfl, h1, r1⟩ := trodAll_cons r0
  obtain ⟨rfl, rfl, rfl⟩ := trodAll_nil r1
  obtain rfl : args = #[v0, v1] := by cases args; simp_all
  obtain ⟨rfl, rfl⟩ := trodVars_none hV
  obtain ⟨a0, len0, cap0, rfl⟩ := okWide_slice Try.underlying24 (hval 0 24 v0 rfl rfl)
  obtain ⟨fuel0, t0⟩ := h0
  obtain ⟨l0, ⟨u0, e0, g0, k0⟩, _⟩ := opens24 _ _ _ t0
  simp [Value.cells] at e0
  subst e0
  obtain ⟨ag1, rfl, _⟩ := okWide_struct Try.underlying39 (hval 1 39 v1 rfl rfl)
  obtain ⟨fuel1, t1⟩ := h1
  obtain ⟨l1, ⟨e1, k1, m1⟩, _⟩ := opens39 _ _ _ t1
  obtain rfl : ag1 = #[.int .i64 l1.1, .int .i64 l1.2] := by cases ag1; simpa [Value.cells] using e1
  simp only [List.append_nil] at hW' hA1
  refine ((law_fn (.slice a0 len0 cap0) l0 l1.1 l1.2 (memOf W) g0 k0 k1 m1).2 W (memOf_ok W)).mono fun e W' ⟨rs, M', he, hb, _, _, _, hr⟩ => ?_
  subst he hr
  exact ⟨_, rfl, post_of_below laid (by rw [Try.params12]; exact of_decide_eq_true (by kernel_rfl)) rfl hW' hA1
    (fun _ _ _ => (trodAll_cons_mk (shut_bool Try.underlying4 _) trodAll_mk0)) rfl rfl hb (ok_one (by kernel_rfl) rfl (okWide_bool_mk Try.underlying4 _))⟩

/-- The statement. -/
theorem proved : Rows.HullFurtherSaid :=
  OpenClaim.holds_of_wide 12 Try.f12 rfl rfl rfl rfl rfl rfl rfl ⟨rfl, rfl, rfl, rfl, rfl⟩ rfl rfl rfl rfl rfl (by kernel_rfl) Try.func12 (by kernel_rfl)
    (of_decide_eq_true (by kernel_rfl)) (by unfold Func.isWrapper; first | (rw [if_pos (by decide +kernel)]; kernel_rfl) | (rw [if_neg (by decide +kernel)]; exact ⟨rfl, rfl⟩))
    (fun os started H enc _ => lifted os started H enc)
#print axioms proved
end Go.Proofs.Ytaobaeiohjgdcaa.hullFurther
