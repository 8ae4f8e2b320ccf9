/- AlarmFewer: with fewer cases, but at least one, or with a protection that has the other one, no alarm is raised that was not before. No conditions beyond the statement's own. -/
import Derived.Test.YtaobaeiohjgdcaaHa7
set_option linter.unusedVariables false
set_option linter.unusedSimpArgs false
/- Contracts: the reference's Corners, Box, Octagon, Eight, Area. -/
namespace Go.Proofs.Ytaobaeiohjgdcaa
open Go Go.V Go.RowKit
theorem lin10 : linP 1 0 = fX := funext fun p => by unfold linP fX; omega
theorem lin01 : linP 0 1 = fY := funext fun p => by unfold linP fY; omega
theorem lin11 : linP 1 1 = fS := funext fun p => by unfold linP fS; omega
theorem lin1m : linP 1 (-1) = fD := funext fun p => by unfold linP fD; omega
theorem Corners03_fn (v : Value) (ps : List Pt) (M : Mem) (hv : Pts M v ps) (hn : 1 ≤ ps.length) (hC : allC ps) : FnP Try.prog 71 [v] M [ptv (boxLo ps), ptv (boxHi ps)] := by
  obtain ⟨ad, c, rfl⟩ := hv.shape
  have b1 := Bounds_fn _ ps 1 0 M hv hn hC (by omega) (by omega)
  have b2 := Bounds_fn _ ps 0 1 M hv hn hC (by omega) (by omega)
  rw [lin10] at b1
  rw [lin01] at b2
  refine Fn.of_vc cxOK Try.func71 rfl rfl rfl ?_
  repeat (first | refine VIf.tt ?_ | refine VIf.ff ?_)
  refine VFn.p b1 ?_
  repeat (first | refine VIf.tt ?_ | refine VIf.ff ?_)
  refine VFn.p b2 ?_
  repeat (first | refine VIf.tt ?_ | refine VIf.ff ?_)
  exact VFact.mk ⟨rfl, rfl⟩ trivial
theorem BoxR_fn (v : Value) (ps : List Pt) (M : Mem) (hv : Pts M v ps) (h64 : i64P ps) : V.Fn Try.prog 35 [v] M fun rs _ => rs = if validB ps = true then [ptv (boxLo ps), ptv (boxHi ps), .int .i64 0] else [pt 0 0, pt 0 0, .int .i64 1] := by
  obtain ⟨ad, c, rfl⟩ := hv.shape
  refine Fn.of_vc cxOK Try.func35 rfl rfl rfl ?_
  repeat (first | refine VIf.tt ?_ | refine VIf.ff ?_)
  refine VFn.p (ValidR_fn _ ps M hv h64) ?_
  rw [validR_eq]
  repeat (first | refine VIf.tt ?_ | refine VIf.ff ?_)
  refine VIf.mk (fun h => ?_) (fun h => ?_)
  · repeat (first | refine VIf.tt ?_ | refine VIf.ff ?_)
    refine VFact.mk ?_ trivial
    rw [bn1 h]; rfl
  have hV := bn2 h
  repeat (first | refine VIf.tt ?_ | refine VIf.ff ?_)
  refine VFn.p (Corners03_fn _ ps M hv (len_one hV).1 (allC_valid hV)) ?_
  repeat (first | refine VIf.tt ?_ | refine VIf.ff ?_)
  refine VDraw.still [5, 6] (by kernel_rfl) ?_
  repeat (first | refine VIf.tt ?_ | refine VIf.ff ?_)
  refine VFzB.mk fun x1 B1 M1 hM1 h1 => ?_
  repeat (first | refine VIf.tt ?_ | refine VIf.ff ?_)
  refine VFzB.mk fun x2 B2 M2 hM2 h2 => ?_
  repeat (first | refine VIf.tt ?_ | refine VIf.ff ?_)
  refine VReads.mk [.int .i64 (boxLo ps).1, .int .i64 (boxLo ps).2] rfl (fun j v hj => cellAt (hM2 _ _ h1) j (by simpa using hj)) ?_
  repeat (first | refine VIf.tt ?_ | refine VIf.ff ?_)
  refine VReads.mk [.int .i64 (boxHi ps).1, .int .i64 (boxHi ps).2] rfl (fun j v hj => cellAt h2 j (by simpa using hj)) ?_
  repeat (first | refine VIf.tt ?_ | refine VIf.ff ?_)
  refine VFact.mk (Mem.le_refl _) ?_
  repeat (first | refine VIf.tt ?_ | refine VIf.ff ?_)
  refine VFact.mk (Mem.le_refl _) ?_
  repeat (first | refine VIf.tt ?_ | refine VIf.ff ?_)
  refine VFact.mk ?_ trivial
  rw [hV]; rfl
theorem Octagon_fn (v : Value) (ps : List Pt) (M : Mem) (hv : Pts M v ps) (hV : validB ps = true) : V.Fn Try.prog 74 [v] M fun rs M' => ∃ u, rs = [u] ∧ Pts M' u (eightP ps) := by
  obtain ⟨ad, c, rfl⟩ := hv.shape
  have hn := (len_one hV).1
  have hC := allC_valid hV
  have b1 := Bounds_fn _ ps 1 0 M hv hn hC (by omega) (by omega)
  have b2 := Bounds_fn _ ps 0 1 M hv hn hC (by omega) (by omega)
  have b3 := Bounds_fn _ ps 1 1 M hv hn hC (by omega) (by omega)
  have b4 := Bounds_fn _ ps 1 (-1) M hv hn hC (by omega) (by omega)
  rw [lin10] at b1
  rw [lin01] at b2
  rw [lin11] at b3
  rw [lin1m] at b4
  obtain ⟨bd, bi⟩ := b8_bd hV
  have hpl := (eight_spec hV).2.2.2.2.1
  have hh := (eight_spec hV).1
  obtain ⟨h1, h2, h3, h4, h5, h6, h7, h8, h9, h10, h11⟩ := bi
  have b1 : FnP Try.prog 103 _ M [.int .i64 (b8 ps).a, .int .i64 (b8 ps).b] := b1
  have b2 : FnP Try.prog 103 _ M [.int .i64 (b8 ps).c, .int .i64 (b8 ps).d] := b2
  have b3 : FnP Try.prog 103 _ M [.int .i64 (b8 ps).s, .int .i64 (b8 ps).t] := b3
  have b4 : FnP Try.prog 103 _ M [.int .i64 (b8 ps).u, .int .i64 (b8 ps).v] := b4
  generalize b8 ps = B at *
  refine Fn.of_vc cxOK Try.func74 rfl rfl rfl ?_
  repeat (first | refine VIf.tt ?_ | refine VIf.ff ?_)
  refine VFn.p b1 ?_
  repeat (first | refine VIf.tt ?_ | refine VIf.ff ?_)
  refine VFn.p b2 ?_
  repeat (first | refine VIf.tt ?_ | refine VIf.ff ?_)
  refine VFn.p b3 ?_
  repeat (first | refine VIf.tt ?_ | refine VIf.ff ?_)
  refine VFn.p b4 ?_
  repeat (first | refine VIf.tt ?_ | refine VIf.ff ?_)
  refine VArith.ok (by first | omega | (simp only; omega)) (by first | omega | (simp only; omega)) ?_
  repeat (first | refine VIf.tt ?_ | refine VIf.ff ?_)
  refine VArith.ok (by first | omega | (simp only; omega)) (by first | omega | (simp only; omega)) ?_
  repeat (first | refine VIf.tt ?_ | refine VIf.ff ?_)
  refine VArith.ok (by first | omega | (simp only; omega)) (by first | omega | (simp only; omega)) ?_
  repeat (first | refine VIf.tt ?_ | refine VIf.ff ?_)
  refine VArith.ok (by first | omega | (simp only; omega)) (by first | omega | (simp only; omega)) ?_
  repeat (first | refine VIf.tt ?_ | refine VIf.ff ?_)
  refine VArith.ok (by first | omega | (simp only; omega)) (by first | omega | (simp only; omega)) ?_
  repeat (first | refine VIf.tt ?_ | refine VIf.ff ?_)
  refine VArith.ok (by first | omega | (simp only; omega)) (by first | omega | (simp only; omega)) ?_
  repeat (first | refine VIf.tt ?_ | refine VIf.ff ?_)
  refine VArith.ok (by first | omega | (simp only; omega)) (by first | omega | (simp only; omega)) ?_
  repeat (first | refine VIf.tt ?_ | refine VIf.ff ?_)
  refine VArith.ok (by first | omega | (simp only; omega)) (by first | omega | (simp only; omega)) ?_
  repeat (first | refine VIf.tt ?_ | refine VIf.ff ?_)
  refine VFz.mk fun x B1 M2 hM2 hx => ?_
  have hx : Pts M2 x [(B.b, B.b - B.v), (B.b, B.t - B.b), (B.t - B.d, B.d), (B.d + B.u, B.d), (B.a, B.a - B.u), (B.a, B.s - B.a), (B.s - B.c, B.c), (B.c + B.v, B.c)] := hx
  have hmem : ∀ y, y ∈ [(B.b, B.b - B.v), (B.b, B.t - B.b), (B.t - B.d, B.d), (B.d + B.u, B.d), (B.a, B.a - B.u), (B.a, B.s - B.a), (B.s - B.c, B.c), (B.c + B.v, B.c)] ↔ y ∈ B.pts := fun y => by
    unfold B8.pts
    simp only [List.mem_cons, List.not_mem_nil, or_false]
    constructor <;> (rintro (h | h | h | h | h | h | h | h) <;> simp [h])
  repeat (first | refine VIf.tt ?_ | refine VIf.ff ?_)
  refine VFn.mk _ (Around_fn x _ (eightP ps) M2 hx (hh.congr hmem) (fun p hp => all_isC (List.all_eq_true.2 hpl) p ((hmem p).1 hp)) (by simp)) ?_
  rintro rs M3 hM3 ⟨u, rfl, hu⟩
  repeat (first | refine VIf.tt ?_ | refine VIf.ff ?_)
  exact VFact.mk ⟨u, rfl, hu⟩ trivial
theorem EightR_fn (v : Value) (ps : List Pt) (M : Mem) (hv : Pts M v ps) (h64 : i64P ps) : V.Fn Try.prog 37 [v] M fun rs M' => if validB ps = true then ∃ u, rs = [u, .int .i64 0] ∧ Pts M' u (eightP ps) else rs = [.slice none 0 0, .int .i64 1] := by
  refine Fn.of_vc cxOK Try.func37 rfl rfl rfl ?_
  repeat (first | refine VIf.tt ?_ | refine VIf.ff ?_)
  refine VFn.p (ValidR_fn _ ps M hv h64) ?_
  rw [validR_eq]
  repeat (first | refine VIf.tt ?_ | refine VIf.ff ?_)
  refine VIf.mk (fun h => ?_) (fun h => ?_)
  · repeat (first | refine VIf.tt ?_ | refine VIf.ff ?_)
    refine VFact.mk ?_ trivial
    show if _ then _ else _
    rw [bn1 h]; rfl
  have hV := bn2 h
  repeat (first | refine VIf.tt ?_ | refine VIf.ff ?_)
  refine VFn.mk _ (Octagon_fn _ ps M hv hV) ?_
  rintro rs M3 hM3 ⟨u, rfl, hu⟩
  repeat (first | refine VIf.tt ?_ | refine VIf.ff ?_)
  refine VFact.mk ?_ trivial
  show if _ then _ else _
  rw [if_pos hV]
  exact ⟨u, rfl, hu⟩
theorem AreaR_fn (v : Value) (ps : List Pt) (M : Mem) (hv : Pts M v ps) (h64 : i64P ps) : FnP Try.prog 39 [v] M (if validB ps = true then [.int .i64 (areaB ps), .int .i64 0] else [.int .i64 0, .int .i64 1]) := by
  obtain ⟨ad, c, rfl⟩ := hv.shape
  obtain ⟨_, hm, hrd⟩ := hv.cellsOf
  refine Fn.of_vc cxOK Try.func39 rfl rfl rfl ?_
  repeat (first | refine VIf.tt ?_ | refine VIf.ff ?_)
  refine VFn.p (ValidR_fn _ ps M hv h64) ?_
  rw [validR_eq]
  repeat (first | refine VIf.tt ?_ | refine VIf.ff ?_)
  refine VIf.mk (fun h => ?_) (fun h => ?_)
  · repeat (first | refine VIf.tt ?_ | refine VIf.ff ?_)
    refine VFact.mk ⟨?_, rfl⟩ trivial
    rw [bn1 h]; rfl
  have hV := bn2 h
  have hn := len_one hV
  have hC := allC_valid hV
  have a1 : areaS ps 1 = 0 := by
    unfold areaS sm sm
    rw [crossP_self]; rfl
  repeat (first | refine VIf.tt ?_ | refine VIf.ff ?_)
  refine VCode.loop cxOK (Nat × Int) (fun s => ⟨[(0, .v (.slice ad ps.length c)), (4, .v (.int .i64 s.2)), (5, .v (.int .i64 s.1))], [], 0, M, 32, ⟨fun _ => none, none, fun _ => none⟩⟩)
    (fun s => 1 ≤ s.1 ∧ s.1 ≤ ps.length ∧ s.2 = areaS ps s.1) (fun s => ps.length - s.1) (1, 0) ⟨Nat.le_refl _, hn.1, a1.symm⟩ (Wk.mk' id (by repeat' constructor) (by repeat' constructor) (injOK_id _) rfl rfl rfl) ?_
  rintro ⟨i, z⟩ ⟨hi1, hi, hz⟩ m
  have hi1 : 1 ≤ i := hi1
  have hi : i ≤ ps.length := hi
  have hz : z = areaS ps i := hz
  repeat (first | refine VIf.tt ?_ | refine VIf.ff ?_)
  refine VArith.ok (by first | omega | (simp only; omega)) (by first | omega | (simp only; omega)) ?_
  repeat (first | refine VIf.tt ?_ | refine VIf.ff ?_)
  refine VIf.mk (fun hlt => ?_) (fun hge => ?_)
  · have hlt : i + 1 < ps.length := by have := of_decide_eq_true hlt; omega
    obtain ⟨ad0, e0, r0⟩ := hrd M (Mem.le_refl _) 0 (by omega)
    obtain ⟨ad1, e1, r1⟩ := hrd M (Mem.le_refl _) i (by omega)
    obtain ⟨ad2, e2, r2⟩ := hrd M (Mem.le_refl _) (i + 1) hlt
    have c0 := hC 0 (by omega)
    have c1 := hC i (by omega)
    have c2 := hC (i + 1) hlt
    have bz := areaS_bd hC (k := i) (by omega)
    have bc := cross_bd c0 c1 c2
    unfold crossP at bc
    repeat (first | refine VIf.tt ?_ | refine VIf.ff ?_)
    refine VDraw.go (by kernel_rfl) ?_
    repeat (first | refine VIf.tt ?_ | refine VIf.ff ?_)
    refine VIdx.mk ad0 0 e0 rfl (by omega) ?_
    repeat (first | refine VIf.tt ?_ | refine VIf.ff ?_)
    refine VReads.mk [.int .i64 (gp ps 0).1, .int .i64 (gp ps 0).2] rfl r0 ?_
    repeat (first | refine VIf.tt ?_ | refine VIf.ff ?_)
    refine VIdx.mk ad1 i e1 rfl (by omega) ?_
    repeat (first | refine VIf.tt ?_ | refine VIf.ff ?_)
    refine VReads.mk [.int .i64 (gp ps i).1, .int .i64 (gp ps i).2] rfl r1 ?_
    repeat (first | refine VIf.tt ?_ | refine VIf.ff ?_)
    refine VArith.ok (by first | omega | (simp only; omega)) (by first | omega | (simp only; omega)) ?_
    repeat (first | refine VIf.tt ?_ | refine VIf.ff ?_)
    refine VIdx.mk ad2 (i + 1) e2 rfl hlt ?_
    repeat (first | refine VIf.tt ?_ | refine VIf.ff ?_)
    refine VReads.mk [.int .i64 (gp ps (i + 1)).1, .int .i64 (gp ps (i + 1)).2] rfl r2 ?_
    repeat (first | refine VIf.tt ?_ | refine VIf.ff ?_)
    refine VFn.p (Cross_fn _ _ _ _ _ _ _ c0.1 c0.2 c1.1 c1.2 c2.1 c2.2) ?_
    repeat (first | refine VIf.tt ?_ | refine VIf.ff ?_)
    refine VArith.ok (by first | omega | (simp only; omega)) (by first | omega | (simp only; omega)) ?_
    repeat (first | refine VIf.tt ?_ | refine VIf.ff ?_)
    refine VArith.ok (by first | omega | (simp only; omega)) (by first | omega | (simp only; omega)) ?_
    refine ⟨(i + 1, z + cross (gp ps 0).1 (gp ps 0).2 (gp ps i).1 (gp ps i).2 (gp ps (i + 1)).1 (gp ps (i + 1)).2), ⟨by simp only; omega, by simp only; omega, ?_⟩, (by first | omega | (simp only; omega)), (Wk.mk' id (by repeat' constructor) (by repeat' constructor) (injOK_id _) rfl rfl rfl)⟩
    rw [hz]
    unfold areaS
    simp only [sm, Nat.mod_eq_of_lt hlt]
    rfl
  · have hge : ps.length ≤ i + 1 := by have := of_decide_eq_false hge; omega
    have ez : z = areaB ps := by
      rw [hz]
      by_cases e : i = ps.length
      · subst e; rfl
      · have e' : ps.length = i + 1 := by omega
        unfold areaS areaB
        rw [e']
        simp only [sm, Nat.mod_self]
        rw [crossP_a]; omega
    repeat (first | refine VIf.tt ?_ | refine VIf.ff ?_)
    refine VFact.mk ⟨?_, rfl⟩ trivial
    rw [hV, ez]; rfl
end Go.Proofs.Ytaobaeiohjgdcaa

/- Contracts: the same, with the value given; the statements' examples. -/
namespace Go.Proofs.Ytaobaeiohjgdcaa
open Go Go.V Go.RowKit
theorem Hull_is {v : Value} {l p : List Pt} {e : Int} {M : Mem} (hv : Pts M v l) (h64 : i64P l) (hr : hullB l = (p, e)) : V.Fn Try.prog 29 [v] M fun rs M' => ∃ u, rs = [u, .int .i64 e] ∧ Pts M' u p := by
  have := Hull_fn v l M hv h64
  rw [hr] at this
  exact this
theorem HullR_is {v : Value} {l p : List Pt} {e : Int} {M : Mem} (hv : Pts M v l) (hr : hullB l = (p, e)) : V.Fn Try.prog 30 [v] M fun rs M' => ∃ u, rs = [u, .int .i64 e] ∧ Pts M' u p := by
  have := HullR_fn v l M hv
  rw [hr] at this
  exact this
theorem Area_is {v : Value} {ps : List Pt} {n : Int} {M : Mem} (hv : Pts M v ps) (h64 : i64P ps) (hV : validB ps = true) (hr : areaB ps = n) : V.Fn Try.prog 38 [v] M fun rs _ => rs = [.int .i64 n, .int .i64 0] := by
  have := Area_fn v ps M hv h64
  rw [hV, hr] at this
  exact this
theorem Area_no {v : Value} {ps : List Pt} {M : Mem} (hv : Pts M v ps) (h64 : i64P ps) (hV : validB ps = false) : V.Fn Try.prog 38 [v] M fun rs _ => rs = [.int .i64 0, .int .i64 1] := by
  have := Area_fn v ps M hv h64
  rw [hV] at this
  exact this
theorem Eight_is {v : Value} {ps q : List Pt} {M : Mem} (hv : Pts M v ps) (h64 : i64P ps) (hV : validB ps = true) (hr : eightP ps = q) : V.Fn Try.prog 36 [v] M fun rs M' => ∃ u, rs = [u, .int .i64 0] ∧ Pts M' u q := by
  have := Eight_fn v ps M hv h64
  simp only [hV, if_true] at this
  rw [hr] at this
  exact this
theorem Eight_no {v : Value} {ps : List Pt} {M : Mem} (hv : Pts M v ps) (h64 : i64P ps) (hV : validB ps = false) : V.Fn Try.prog 36 [v] M fun rs M' => rs = [.slice none 0 0, .int .i64 1] := by
  have := Eight_fn v ps M hv h64
  simp only [hV, Bool.false_eq_true, if_false] at this
  exact this
theorem EightR_is {v : Value} {ps q : List Pt} {M : Mem} (hv : Pts M v ps) (h64 : i64P ps) (hV : validB ps = true) (hr : eightP ps = q) : V.Fn Try.prog 37 [v] M fun rs M' => ∃ u, rs = [u, .int .i64 0] ∧ Pts M' u q := by
  have := EightR_fn v ps M hv h64
  simp only [hV, if_true] at this
  rw [hr] at this
  exact this
theorem EightR_no {v : Value} {ps : List Pt} {M : Mem} (hv : Pts M v ps) (h64 : i64P ps) (hV : validB ps = false) : V.Fn Try.prog 37 [v] M fun rs M' => rs = [.slice none 0 0, .int .i64 1] := by
  have := EightR_fn v ps M hv h64
  simp only [hV, Bool.false_eq_true, if_false] at this
  exact this
theorem Box_is {v : Value} {ps : List Pt} {lo hi : Pt} {M : Mem} (hv : Pts M v ps) (h64 : i64P ps) (hV : validB ps = true) (hl : boxLo ps = lo) (hh : boxHi ps = hi) : V.Fn Try.prog 34 [v] M fun rs _ => rs = [ptv lo, ptv hi, .int .i64 0] := by
  have := Box_fn v ps M hv h64
  rw [hV, hl, hh] at this
  exact this
theorem Box_no {v : Value} {ps : List Pt} {M : Mem} (hv : Pts M v ps) (h64 : i64P ps) (hV : validB ps = false) : V.Fn Try.prog 34 [v] M fun rs _ => rs = [pt 0 0, pt 0 0, .int .i64 1] := by
  have := Box_fn v ps M hv h64
  rw [hV] at this
  exact this
theorem BoxR_is {v : Value} {ps : List Pt} {lo hi : Pt} {M : Mem} (hv : Pts M v ps) (h64 : i64P ps) (hV : validB ps = true) (hl : boxLo ps = lo) (hh : boxHi ps = hi) : V.Fn Try.prog 35 [v] M fun rs _ => rs = [ptv lo, ptv hi, .int .i64 0] := by
  have := BoxR_fn v ps M hv h64
  rw [hV, hl, hh] at this
  exact this
theorem BoxR_no {v : Value} {ps : List Pt} {M : Mem} (hv : Pts M v ps) (h64 : i64P ps) (hV : validB ps = false) : V.Fn Try.prog 35 [v] M fun rs _ => rs = [pt 0 0, pt 0 0, .int .i64 1] := by
  have := BoxR_fn v ps M hv h64
  rw [hV] at this
  exact this
/-- What Has says. -/
def hasE (ps : List Pt) (x : Pt) : Bool × Int := if (validB ps && placeB x) = true then (hasB ps x, 0) else (false, 1)
theorem hasB_is {v : Value} {ps : List Pt} {x : Pt} {b : Bool} {e : Int} {M : Mem} (hv : Pts M v ps) (h64 : i64P ps) (hx : i64r x.1 ∧ i64r x.2) (hr : hasE ps x = (b, e)) : V.Fn Try.prog 26 [v, ptv x] M fun rs _ => rs = [.bool b, .int .i64 e] := by
  have := Has_fn v ps x.1 x.2 M hv h64 hx.1 hx.2
  unfold hasE at hr
  by_cases h : (validB ps && placeB x) = true
  · rw [if_pos h] at hr
    simp only [h, if_true] at this
    cases hr; exact this
  · rw [if_neg h] at hr
    simp only [h, Bool.false_eq_true, if_false] at this
    cases hr; exact this
theorem HasR_is {v : Value} {ps : List Pt} {x : Pt} {b : Bool} {e : Int} {M : Mem} (hv : Pts M v ps) (h64 : i64P ps) (hr : hasE ps x = (b, e)) : FnP Try.prog 33 [v, ptv x] M [.bool b, .int .i64 e] := by
  have := HasR_fn v ps x M hv h64
  unfold hasE at hr
  by_cases h : (validB ps && placeB x) = true
  · rw [if_pos h] at hr this
    cases hr; exact this
  · rw [if_neg h] at hr this
    cases hr; exact this
def six : List Pt := [(0, 0), (4, 0), (2, 1), (4, 4), (2, 0), (0, 4)]
def sq : List Pt := [(0, 0), (4, 0), (4, 4), (0, 4)]
def two : List Pt := [(0, 0), (5, 1)]
def rhomb : List Pt := [(0, 0), (4, 0), (5, 1), (1, 1)]
theorem hull_six : hullB six = (sq, 0) := by
  have h : aroundP six = sq := around_eq (hl_of_has (by decide) (by decide) (by decide))
  unfold hullB
  rw [h, if_neg (by decide), if_neg (by decide), if_neg (by decide)]
theorem eight_two : eightP two = rhomb := by
  unfold eightP
  exact around_eq (hl_of_has (by decide) (by decide) (by decide))
theorem hull_nil : hullB [] = ([], 1) := rfl
theorem hull_far : hullB [(500001, 0)] = ([], 1) := by
  unfold hullB
  rw [if_neg (by decide), if_pos (by decide)]
theorem i64P_of {ps : List Pt} (h : ∀ p ∈ ps, i64r p.1 ∧ i64r p.2) : i64P ps := fun i hi => h _ (gp_mem hi)
theorem i64P_valid {ps : List Pt} (hV : validB ps = true) : i64P ps := fun i hi => by
  have := allC_valid hV i hi
  unfold isC at this
  unfold i64r
  omega
end Go.Proofs.Ytaobaeiohjgdcaa

/- Contract: the examples at the head of the hull's laws. -/
namespace Go.Proofs.Ytaobaeiohjgdcaa
open Go Go.V Go.RowKit
set_option maxRecDepth 100000 in
set_option maxHeartbeats 4000000 in
theorem head03_fn (M : Mem) : V.Fn Try.prog 28 [] M fun rs _ => rs = [.bool true] := by
  refine Fn.of_vc cxOK Try.func28 rfl rfl rfl ?_
  repeat (first | refine VIf.tt ?_ | refine VIf.ff ?_)
  refine VFz.mk fun x1 _ M1 hM1 hx1 => ?_
  have hx1 : Pts M1 x1 six := hx1
  repeat (first | refine VIf.tt ?_ | refine VIf.ff ?_)
  refine VFn.mk _ (Hull_is hx1 (i64_of (by decide)) hull_six) ?_
  rintro rs M2 hM2 ⟨u, rfl, hu⟩
  have s64 : i64P sq := i64_of (by decide)
  repeat (first | refine VIf.tt ?_ | refine VIf.ff ?_)
  refine VFn.mk _ (Area_is hu s64 (n := 32) (by decide) (by decide)) ?_
  rintro rs M3 hM3 rfl
  repeat (first | refine VIf.tt ?_ | refine VIf.ff ?_)
  refine VFz.mk fun x2 _ M4 hM4 hx2 => ?_
  have hx2 : Pts M4 x2 two := hx2
  repeat (first | refine VIf.tt ?_ | refine VIf.ff ?_)
  refine VFn.mk _ (Eight_is hx2 (i64_of (by decide)) (by decide) eight_two) ?_
  rintro rs M5 hM5 ⟨w, rfl, hw⟩
  have m5 : M2.le M5 := (hM3.trans hM4).trans hM5
  repeat (first | refine VIf.tt ?_ | refine VIf.ff ?_)
  refine VFn.mk _ (Box_is (hu.le m5) s64 (lo := (0, 0)) (hi := (4, 4)) (by decide) (by decide) (by decide)) ?_
  rintro rs M6 hM6 rfl
  have m6 := m5.trans hM6
  repeat (first | refine VIf.tt ?_ | refine VIf.ff ?_)
  refine VFn.mk _ (hasB_is (x := (4, 3)) (b := true) (e := 0) (hu.le m6) s64 (by decide) (by decide)) ?_
  rintro rs M7 hM7 rfl
  have m7 := m6.trans hM7
  repeat (first | refine VIf.tt ?_ | refine VIf.ff ?_)
  refine VFn.mk _ (hasB_is (x := (5, 3)) (b := false) (e := 0) (hu.le m7) s64 (by decide) (by decide)) ?_
  rintro rs M8 hM8 rfl
  have m8 := m7.trans hM8
  repeat (first | refine VIf.tt ?_ | refine VIf.ff ?_)
  refine VFn.mk _ (Hull_is (Pts.nil _) (i64_of (by decide)) hull_nil) ?_
  rintro rs M9 hM9 ⟨u1, rfl, _⟩
  have m9 := m8.trans hM9
  repeat (first | refine VIf.tt ?_ | refine VIf.ff ?_)
  refine VFz.mk fun x3 _ M10 hM10 hx3 => ?_
  have hx3 : Pts M10 x3 [(500001, 0)] := hx3
  repeat (first | refine VIf.tt ?_ | refine VIf.ff ?_)
  refine VFn.mk _ (Hull_is hx3 (i64_of (by decide)) hull_far) ?_
  rintro rs M11 hM11 ⟨u2, rfl, _⟩
  have m11 := (m9.trans hM10).trans hM11
  repeat (first | refine VIf.tt ?_ | refine VIf.ff ?_)
  refine VFz.mk fun y1 _ M12 hM12 hy1 => ?_
  have hy1 : Pts M12 y1 sq := hy1
  have m12 := m11.trans hM12
  repeat (first | refine VIf.tt ?_ | refine VIf.ff ?_)
  refine VFn.p (Same_fn u y1 sq sq M12 (hu.le m12) hy1) ?_
  repeat (first | refine VIf.tt ?_ | refine VIf.ff ?_)
  refine VFz.mk fun y2 _ M13 hM13 hy2 => ?_
  have hy2 : Pts M13 y2 rhomb := hy2
  have m13 := m12.trans hM13
  have w13 : M5.le M13 := (((((hM6.trans hM7).trans hM8).trans hM9).trans (hM10.trans hM11)).trans hM12).trans hM13
  repeat (first | refine VIf.tt ?_ | refine VIf.ff ?_)
  refine VFn.p (Same_fn w y2 rhomb rhomb M13 (hw.le w13) hy2) ?_
  repeat (first | refine VIf.tt ?_ | refine VIf.ff ?_)
  refine VFn.mk _ (Valid_fn u sq M13 (hu.le m13) s64) ?_
  rintro rs M14 hM14 rfl
  repeat (first | refine VIf.tt ?_ | refine VIf.ff ?_)
  refine VFn.mk _ (Valid_fn _ [] M14 (Pts.nil _) (i64_of (by decide))) ?_
  rintro rs M15 hM15 rfl
  repeat (first | refine VIf.tt ?_ | refine VIf.ff ?_)
  refine VFact.mk ?_ trivial
  exact congrArg (fun b => [Value.bool b]) (by decide)
end Go.Proofs.Ytaobaeiohjgdcaa

/- HullMatchesReference: all functions of package hull return what the reference returns. No conditions beyond the statement's own. -/
namespace Go.Proofs.Ytaobaeiohjgdcaa
open Go Go.V Go.RowKit
theorem Same_is {v w : Value} {ps : List Pt} {M : Mem} (hv : Pts M v ps) (hw : Pts M w ps) : FnP Try.prog 31 [v, w] M [.bool true] := by
  have := Same_fn v w ps ps M hv hw
  rw [decide_eq_true rfl] at this
  exact this
theorem V_is {v : Value} {ps : List Pt} {b : Bool} {M : Mem} (hv : Pts M v ps) (h64 : i64P ps) (hr : validB ps = b) : V.Fn Try.prog 25 [v] M fun rs _ => rs = [.bool b] := by
  have := Valid_fn v ps M hv h64
  rw [hr] at this
  exact this
theorem ValidR_is {v : Value} {ps : List Pt} {b : Bool} {M : Mem} (hv : Pts M v ps) (h64 : i64P ps) (hr : validB ps = b) : FnP Try.prog 32 [v] M [.bool b] := by
  have := ValidR_fn v ps M hv h64
  rw [validR_eq, hr] at this
  exact this
theorem AreaR_is {v : Value} {ps : List Pt} {n : Int} {M : Mem} (hv : Pts M v ps) (h64 : i64P ps) (hV : validB ps = true) (hr : areaB ps = n) : FnP Try.prog 39 [v] M [.int .i64 n, .int .i64 0] := by
  have := AreaR_fn v ps M hv h64
  rw [if_pos hV, hr] at this
  exact this
theorem AreaR_no {v : Value} {ps : List Pt} {M : Mem} (hv : Pts M v ps) (h64 : i64P ps) (hV : validB ps = false) : FnP Try.prog 39 [v] M [.int .i64 0, .int .i64 1] := by
  have := AreaR_fn v ps M hv h64
  rw [if_neg (by rw [hV]; exact Bool.false_ne_true)] at this
  exact this
theorem beqb_no {a : Bool} {A : Prop} (h : (a == a) = false) : A := by cases a <;> cases h
theorem beqp_no {a b : Int} {A : Prop} (h : (a == a && b == b) = false) : A := by simp at h
theorem beq_no {a : Int} {A : Prop} (h : (a == a) = false) : A := by simp at h
end Go.Proofs.Ytaobaeiohjgdcaa
namespace Go.Proofs.Ytaobaeiohjgdcaa.hullMatchesReference
open Go Go.V Go.RowKit
set_option maxRecDepth 20000 in
set_option maxHeartbeats 2000000 in
theorem law_fn (v0 v1 : Value) (l p : List Pt) (x y : Int) (M : Mem) (h0 : Pts M v0 l) (g0 : i64P l) (h1 : Pts M v1 p) (h64 : i64P p) (hx : i64r x) (hy : i64r y) : V.Fn Try.prog 6 [v0, v1, .agg #[.int .i64 x, .int .i64 y]] M fun rs _ => rs = [.bool true] := by
  obtain ⟨ad, c, rfl⟩ := h0.shape
  obtain ⟨bd, d, rfl⟩ := h1.shape
  obtain ⟨⟨q, e⟩, hr⟩ : ∃ r, hullB l = r := ⟨_, rfl⟩
  obtain ⟨b, hV⟩ : ∃ b, validB p = b := ⟨_, rfl⟩
  obtain ⟨⟨b2, e2⟩, hH⟩ : ∃ r, hasE p (x, y) = r := ⟨_, rfl⟩
  refine Fn.of_vc cxOK Try.func6 rfl rfl rfl ?_
  repeat (first | refine VIf.tt ?_ | refine VIf.ff ?_)
  refine VFn.mk _ (head03_fn M) ?_
  rintro rs M1 hM1 rfl
  repeat (first | refine VIf.tt ?_ | refine VIf.ff ?_)
  refine VFn.p (Few03_fn _ l M1 (h0.le hM1)) ?_
  repeat (first | refine VIf.tt ?_ | refine VIf.ff ?_)
  refine VIf.mk (fun _ => ?_) (fun _ => ?_)
  · repeat (first | refine VIf.tt ?_ | refine VIf.ff ?_)
    refine VIf.mk (fun _ => ?_) (fun _ => ?_)
    · repeat (first | refine VIf.tt ?_ | refine VIf.ff ?_)
      exact VFact.mk rfl trivial
    repeat (first | refine VIf.tt ?_ | refine VIf.ff ?_)
    refine VFn.p (Few03_fn _ p M1 (h1.le hM1)) ?_
    repeat (first | refine VIf.tt ?_ | refine VIf.ff ?_)
    refine VIf.mk (fun _ => ?_) (fun _ => ?_)
    · repeat (first | refine VIf.tt ?_ | refine VIf.ff ?_)
      exact VFact.mk rfl trivial
    repeat (first | refine VIf.tt ?_ | refine VIf.ff ?_)
    refine VFn.mk _ (Hull_is (h0.le hM1) g0 hr) ?_
    rintro rs M2 hM2 ⟨u, rfl, hu⟩
    have m2 := hM1.trans hM2
    repeat (first | refine VIf.tt ?_ | refine VIf.ff ?_)
    refine VFn.mk _ (HullR_is (h0.le m2) hr) ?_
    rintro rs M3 hM3 ⟨w, rfl, hw⟩
    have m3 := m2.trans hM3
    repeat (first | refine VIf.tt ?_ | refine VIf.ff ?_)
    refine VFn.p (Same_is (hu.le hM3) hw) ?_
    repeat (first | refine VIf.tt ?_ | refine VIf.ff ?_)
    refine VIf.mk (fun _ => ?_) (fun h => beq_no h)
    repeat (first | refine VIf.tt ?_ | refine VIf.ff ?_)
    refine VFn.mk _ (V_is (h1.le m3) h64 hV) ?_
    rintro rs M4 hM4 rfl
    have m4 := m3.trans hM4
    repeat (first | refine VIf.tt ?_ | refine VIf.ff ?_)
    refine VFn.p (ValidR_is (h1.le m4) h64 hV) ?_
    repeat (first | refine VIf.tt ?_ | refine VIf.ff ?_)
    refine VFn.mk _ (hasB_is (x := (x, y)) (h1.le m4) h64 ⟨hx, hy⟩ hH) ?_
    rintro rs M5 hM5 rfl
    have m5 := m4.trans hM5
    repeat (first | refine VIf.tt ?_ | refine VIf.ff ?_)
    refine VFn.p (HasR_is (x := (x, y)) (h1.le m5) h64 hH) ?_
    repeat (first | refine VIf.tt ?_ | refine VIf.ff ?_)
    refine VIf.mk (fun _ => ?_) (fun h => beqb_no h)
    repeat (first | refine VIf.tt ?_ | refine VIf.ff ?_)
    refine VIf.mk (fun _ => ?_) (fun h => beqb_no h)
    cases b with
    | true =>
      obtain ⟨lo, hlo⟩ : ∃ r, boxLo p = r := ⟨_, rfl⟩
      obtain ⟨hi, hhi⟩ : ∃ r, boxHi p = r := ⟨_, rfl⟩
      obtain ⟨o, ho⟩ : ∃ r, eightP p = r := ⟨_, rfl⟩
      obtain ⟨n, hn⟩ : ∃ r, areaB p = r := ⟨_, rfl⟩
      repeat (first | refine VIf.tt ?_ | refine VIf.ff ?_)
      refine VFn.mk _ (Box_is (h1.le m5) h64 hV hlo hhi) ?_
      rintro rs M6 hM6 rfl
      have m6 := m5.trans hM6
      repeat (first | refine VIf.tt ?_ | refine VIf.ff ?_)
      refine VFn.mk _ (BoxR_is (h1.le m6) h64 hV hlo hhi) ?_
      rintro rs M7 hM7 rfl
      have m7 := m6.trans hM7
      repeat (first | refine VIf.tt ?_ | refine VIf.ff ?_)
      refine VIf.mk (fun _ => ?_) (fun h => beq_no h)
      repeat (first | refine VIf.tt ?_ | refine VIf.ff ?_)
      refine VIf.mk (fun _ => ?_) (fun h => beqp_no h)
      repeat (first | refine VIf.tt ?_ | refine VIf.ff ?_)
      refine VIf.mk (fun _ => ?_) (fun h => beqp_no h)
      repeat (first | refine VIf.tt ?_ | refine VIf.ff ?_)
      refine VFn.mk _ (Eight_is (h1.le m7) h64 hV ho) ?_
      rintro rs M8 hM8 ⟨u2, rfl, hu2⟩
      have m8 := m7.trans hM8
      repeat (first | refine VIf.tt ?_ | refine VIf.ff ?_)
      refine VFn.mk _ (EightR_is (h1.le m8) h64 hV ho) ?_
      rintro rs M9 hM9 ⟨w2, rfl, hw2⟩
      have m9 := m8.trans hM9
      repeat (first | refine VIf.tt ?_ | refine VIf.ff ?_)
      refine VFn.p (Same_is (hu2.le hM9) hw2) ?_
      repeat (first | refine VIf.tt ?_ | refine VIf.ff ?_)
      refine VFn.mk _ (Area_is (h1.le m9) h64 hV hn) ?_
      rintro rs M10 hM10 rfl
      have m10 := m9.trans hM10
      repeat (first | refine VIf.tt ?_ | refine VIf.ff ?_)
      refine VFn.p (AreaR_is (h1.le m10) h64 hV hn) ?_
      repeat (first | refine VIf.tt ?_ | refine VIf.ff ?_)
      refine VIf.mk (fun _ => ?_) (fun h => beq_no h)
      repeat (first | refine VIf.tt ?_ | refine VIf.ff ?_)
      exact VFact.mk rfl trivial
    | false =>
      repeat (first | refine VIf.tt ?_ | refine VIf.ff ?_)
      refine VFn.mk _ (Box_no (h1.le m5) h64 hV) ?_
      rintro rs M6 hM6 rfl
      have m6 := m5.trans hM6
      repeat (first | refine VIf.tt ?_ | refine VIf.ff ?_)
      refine VFn.mk _ (BoxR_no (h1.le m6) h64 hV) ?_
      rintro rs M7 hM7 rfl
      have m7 := m6.trans hM7
      repeat (first | refine VIf.tt ?_ | refine VIf.ff ?_)
      refine VIf.mk (fun _ => ?_) (fun h => beq_no h)
      repeat (first | refine VIf.tt ?_ | refine VIf.ff ?_)
      refine VFn.mk _ (Eight_no (h1.le m7) h64 hV) ?_
      rintro rs M8 hM8 rfl
      have m8 := m7.trans hM8
      repeat (first | refine VIf.tt ?_ | refine VIf.ff ?_)
      refine VFn.mk _ (EightR_no (h1.le m8) h64 hV) ?_
      rintro rs M9 hM9 rfl
      have m9 := m8.trans hM9
      repeat (first | refine VIf.tt ?_ | refine VIf.ff ?_)
      refine VFn.p (Same_is (Pts.nil _) (Pts.nil _)) ?_
      repeat (first | refine VIf.tt ?_ | refine VIf.ff ?_)
      refine VFn.mk _ (Area_no (h1.le m9) h64 hV) ?_
      rintro rs M10 hM10 rfl
      have m10 := m9.trans hM10
      repeat (first | refine VIf.tt ?_ | refine VIf.ff ?_)
      refine VFn.p (AreaR_no (h1.le m10) h64 hV) ?_
      repeat (first | refine VIf.tt ?_ | refine VIf.ff ?_)
      exact VFact.mk rfl trivial
  repeat (first | refine VIf.tt ?_ | refine VIf.ff ?_)
  refine VFn.p (Few03_fn _ p M1 (h1.le hM1)) ?_
  repeat (first | refine VIf.tt ?_ | refine VIf.ff ?_)
  refine VIf.mk (fun _ => ?_) (fun _ => ?_)
  · repeat (first | refine VIf.tt ?_ | refine VIf.ff ?_)
    exact VFact.mk rfl trivial
  repeat (first | refine VIf.tt ?_ | refine VIf.ff ?_)
  refine VFn.mk _ (Hull_is (h0.le hM1) g0 hr) ?_
  rintro rs M2 hM2 ⟨u, rfl, hu⟩
  have m2 := hM1.trans hM2
  repeat (first | refine VIf.tt ?_ | refine VIf.ff ?_)
  refine VFn.mk _ (HullR_is (h0.le m2) hr) ?_
  rintro rs M3 hM3 ⟨w, rfl, hw⟩
  have m3 := m2.trans hM3
  repeat (first | refine VIf.tt ?_ | refine VIf.ff ?_)
  refine VFn.p (Same_is (hu.le hM3) hw) ?_
  repeat (first | refine VIf.tt ?_ | refine VIf.ff ?_)
  refine VIf.mk (fun _ => ?_) (fun h => beq_no h)
  repeat (first | refine VIf.tt ?_ | refine VIf.ff ?_)
  refine VFn.mk _ (V_is (h1.le m3) h64 hV) ?_
  rintro rs M4 hM4 rfl
  have m4 := m3.trans hM4
  repeat (first | refine VIf.tt ?_ | refine VIf.ff ?_)
  refine VFn.p (ValidR_is (h1.le m4) h64 hV) ?_
  repeat (first | refine VIf.tt ?_ | refine VIf.ff ?_)
  refine VFn.mk _ (hasB_is (x := (x, y)) (h1.le m4) h64 ⟨hx, hy⟩ hH) ?_
  rintro rs M5 hM5 rfl
  have m5 := m4.trans hM5
  repeat (first | refine VIf.tt ?_ | refine VIf.ff ?_)
  refine VFn.p (HasR_is (x := (x, y)) (h1.le m5) h64 hH) ?_
  repeat (first | refine VIf.tt ?_ | refine VIf.ff ?_)
  refine VIf.mk (fun _ => ?_) (fun h => beqb_no h)
  repeat (first | refine VIf.tt ?_ | refine VIf.ff ?_)
  refine VIf.mk (fun _ => ?_) (fun h => beqb_no h)
  cases b with
  | true =>
    obtain ⟨lo, hlo⟩ : ∃ r, boxLo p = r := ⟨_, rfl⟩
    obtain ⟨hi, hhi⟩ : ∃ r, boxHi p = r := ⟨_, rfl⟩
    obtain ⟨o, ho⟩ : ∃ r, eightP p = r := ⟨_, rfl⟩
    obtain ⟨n, hn⟩ : ∃ r, areaB p = r := ⟨_, rfl⟩
    repeat (first | refine VIf.tt ?_ | refine VIf.ff ?_)
    refine VFn.mk _ (Box_is (h1.le m5) h64 hV hlo hhi) ?_
    rintro rs M6 hM6 rfl
    have m6 := m5.trans hM6
    repeat (first | refine VIf.tt ?_ | refine VIf.ff ?_)
    refine VFn.mk _ (BoxR_is (h1.le m6) h64 hV hlo hhi) ?_
    rintro rs M7 hM7 rfl
    have m7 := m6.trans hM7
    repeat (first | refine VIf.tt ?_ | refine VIf.ff ?_)
    refine VIf.mk (fun _ => ?_) (fun h => beq_no h)
    repeat (first | refine VIf.tt ?_ | refine VIf.ff ?_)
    refine VIf.mk (fun _ => ?_) (fun h => beqp_no h)
    repeat (first | refine VIf.tt ?_ | refine VIf.ff ?_)
    refine VIf.mk (fun _ => ?_) (fun h => beqp_no h)
    repeat (first | refine VIf.tt ?_ | refine VIf.ff ?_)
    refine VFn.mk _ (Eight_is (h1.le m7) h64 hV ho) ?_
    rintro rs M8 hM8 ⟨u2, rfl, hu2⟩
    have m8 := m7.trans hM8
    repeat (first | refine VIf.tt ?_ | refine VIf.ff ?_)
    refine VFn.mk _ (EightR_is (h1.le m8) h64 hV ho) ?_
    rintro rs M9 hM9 ⟨w2, rfl, hw2⟩
    have m9 := m8.trans hM9
    repeat (first | refine VIf.tt ?_ | refine VIf.ff ?_)
    refine VFn.p (Same_is (hu2.le hM9) hw2) ?_
    repeat (first | refine VIf.tt ?_ | refine VIf.ff ?_)
    refine VFn.mk _ (Area_is (h1.le m9) h64 hV hn) ?_
    rintro rs M10 hM10 rfl
    have m10 := m9.trans hM10
    repeat (first | refine VIf.tt ?_ | refine VIf.ff ?_)
    refine VFn.p (AreaR_is (h1.le m10) h64 hV hn) ?_
    repeat (first | refine VIf.tt ?_ | refine VIf.ff ?_)
    refine VIf.mk (fun _ => ?_) (fun h => beq_no h)
    repeat (first | refine VIf.tt ?_ | refine VIf.ff ?_)
    exact VFact.mk rfl trivial
  | false =>
    repeat (first | refine VIf.tt ?_ | refine VIf.ff ?_)
    refine VFn.mk _ (Box_no (h1.le m5) h64 hV) ?_
    rintro rs M6 hM6 rfl
    have m6 := m5.trans hM6
    repeat (first | refine VIf.tt ?_ | refine VIf.ff ?_)
    refine VFn.mk _ (BoxR_no (h1.le m6) h64 hV) ?_
    rintro rs M7 hM7 rfl
    have m7 := m6.trans hM7
    repeat (first | refine VIf.tt ?_ | refine VIf.ff ?_)
    refine VIf.mk (fun _ => ?_) (fun h => beq_no h)
    repeat (first | refine VIf.tt ?_ | refine VIf.ff ?_)
    refine VFn.mk _ (Eight_no (h1.le m7) h64 hV) ?_
    rintro rs M8 hM8 rfl
    have m8 := m7.trans hM8
    repeat (first | refine VIf.tt ?_ | refine VIf.ff ?_)
    refine VFn.mk _ (EightR_no (h1.le m8) h64 hV) ?_
    rintro rs M9 hM9 rfl
    have m9 := m8.trans hM9
    repeat (first | refine VIf.tt ?_ | refine VIf.ff ?_)
    refine VFn.p (Same_is (Pts.nil _) (Pts.nil _)) ?_
    repeat (first | refine VIf.tt ?_ | refine VIf.ff ?_)
    refine VFn.mk _ (Area_no (h1.le m9) h64 hV) ?_
    rintro rs M10 hM10 rfl
    have m10 := m9.trans hM10
    repeat (first | refine VIf.tt ?_ | refine VIf.ff ?_)
    refine VFn.p (AreaR_no (h1.le m10) h64 hV) ?_
    repeat (first | refine VIf.tt ?_ | refine VIf.ff ?_)
    exact VFact.mk rfl trivial
end Go.Proofs.Ytaobaeiohjgdcaa.hullMatchesReference

/- What a hull's result says; more contracts with the value given. -/
namespace Go.Proofs.Ytaobaeiohjgdcaa
open Go Go.V Go.RowKit
theorem hull_split {l p : List Pt} {e : Int} (hr : hullB l = (p, e)) : (e = 0 ∧ Hl l p ∧ validB p = true ∧ l.all placeB = true ∧ l.length ≤ 4000 ∧ p.length ≤ 64) ∨ (e ≠ 0 ∧ p = []) := by
  unfold hullB at hr
  split at hr
  · cases hr; exact .inr ⟨by decide, rfl⟩
  split at hr
  · cases hr; exact .inr ⟨by decide, rfl⟩
  split at hr
  · cases hr; exact .inr ⟨by decide, rfl⟩
  · rename_i h1 h2 h3
    cases hr
    have hne : l ≠ [] := fun h => h2 (.inl h)
    have hall : l.all placeB = true := by
      cases h : l.all placeB with
      | true => rfl
      | false => exact absurd (.inr h) h2
    have hh := around_hl hne
    exact .inl ⟨rfl, hh, hh.valid (fun x hx => List.all_eq_true.1 hall x hx) (by omega), hall, by omega, by omega⟩
theorem place_C {x : Pt} (h : placeB x = true) : isC x.1 ∧ isC x.2 := all_isC (l := [x]) (by simp [h]) x (by simp)
theorem place_64 {x : Pt} (h : placeB x = true) : i64r x.1 ∧ i64r x.2 := by
  have := place_C h
  unfold isC at this
  unfold i64r
  omega
theorem hasE_is {p : List Pt} {x : Pt} (hV : validB p = true) (hP : placeB x = true) {b : Bool} (h : hasB p x = b) : hasE p x = (b, 0) := by
  unfold hasE
  rw [hV, hP, h]; rfl
theorem has03_is {v : Value} {ps : List Pt} {x : Pt} {M : Mem} (hv : Pts M v ps) (hx : x ∈ ps) : V.Fn Try.prog 41 [v, ptv x] M fun rs _ => rs = [.bool true] := by
  have := has03_fn v ps x M hv
  rw [List.contains_iff_mem.2 hx] at this
  exact this
theorem Inside_is {v : Value} {ps : List Pt} {x : Pt} {b : Bool} {M : Mem} (hv : Pts M v ps) (hV : validB ps = true) (hP : placeB x = true) (hr : hasB ps x = b) : FnP Try.prog 40 [v, ptv x] M [.bool b] := by
  have := Inside_fn v ps x.1 x.2 M hv (allC_valid hV) (place_C hP).1 (place_C hP).2
  rw [show ((x.1, x.2) : Pt) = x from rfl, hr] at this
  exact this
theorem Place_is {x : Pt} {b : Bool} {M : Mem} (hr : placeB x = b) : FnP Try.prog 23 [ptv x] M [.bool b] := by
  have := Place_fn x.1 x.2 M
  rw [show (isCb x.1 && isCb x.2) = placeB x from rfl, hr] at this
  exact this
theorem Few_is {v : Value} {ps : List Pt} {M : Mem} {b : Bool} (hv : Pts M v ps) (hr : decide (ps.length ≤ 80) = b) : FnP Try.prog 18 [v] M [.bool b] := by
  have := Few03_fn v ps M hv
  rw [hr] at this
  exact this
end Go.Proofs.Ytaobaeiohjgdcaa

/- HullOrder: the order of places, and how often one is there, play no part; the hull of a hull's corners is this hull. No conditions beyond the statement's own. -/
namespace Go.Proofs.Ytaobaeiohjgdcaa
open Go Go.V Go.RowKit
/-- A slice of bytes. -/
def BysV (M : Mem) (v : Value) (bs : List Int) : Prop := SlAt M 1 v bs.length (bs.map (Value.int .u8)) ∧ ∀ b ∈ bs, 0 ≤ b ∧ b ≤ 255
theorem BysV.get {M : Mem} {v : Value} {bs : List Int} (h : BysV M v bs) : ∃ ad c, v = .slice ad bs.length c ∧ bs.length ≤ 9223372036854775807 ∧ ∀ M', M.le M' → ∀ i, i < bs.length → ∃ ad' b, ad = some ad' ∧ 0 ≤ b ∧ b ≤ 255 ∧ M'.cell (ad'.add (i * 1)) = some (.int .u8 b) := by
  obtain ⟨⟨ad, c, e, h1, h2, h3, h4, h5⟩, hr⟩ := h
  unfold maxLen at h2
  refine ⟨ad, c, e, by omega, fun M' hM i hi => ?_⟩
  obtain ⟨ad', rfl, hc⟩ := h5 (by omega)
  have hb := hr _ (List.getElem_mem hi)
  refine ⟨ad', bs[i], rfl, hb.1, hb.2, ?_⟩
  rw [Nat.mul_one]
  exact Mem.cell_le hM (hc i _ (by simp [hi]))
theorem hull_congr {l o : List Pt} (h : ∀ x, x ∈ o ↔ x ∈ l) (hl : l.length ≤ 4000) (ho : o.length ≤ 4000) : hullB o = hullB l := by
  by_cases hne : l = []
  · have : o = [] := List.eq_nil_iff_forall_not_mem.2 fun x hx => by have := (h x).1 hx; rw [hne] at this; cases this
    rw [hne, this]
  have hne' : o ≠ [] := fun e => hne (List.eq_nil_iff_forall_not_mem.2 fun x hx => by have := (h x).2 hx; rw [e] at this; cases this)
  have e1 : o.all placeB = l.all placeB := by
    rw [Bool.eq_iff_iff, List.all_eq_true, List.all_eq_true]
    exact ⟨fun g x hx => g x ((h x).2 hx), fun g x hx => g x ((h x).1 hx)⟩
  have e2 : aroundP o = aroundP l := around_eq ((around_hl hne).congr h)
  unfold hullB
  rw [if_neg (show ¬ 4000 < o.length by omega), if_neg (show ¬ 4000 < l.length by omega), e1, e2]
  simp only [hne, hne', false_or]
theorem hull_self {p : List Pt} (hV : validB p = true) : hullB p = (p, 0) := by
  have hn := len_one hV
  have e := around_eq (hl_of_valid hV)
  have hall : p.all placeB = true := List.all_eq_true.2 fun x hx => by
    obtain ⟨i, hi, rfl⟩ := mem_gp hx
    exact valid_place hV hi
  unfold hullB
  rw [if_neg (by omega), if_neg (by rw [hall]; intro h; rcases h with h | h; · rw [h] at hn; simp at hn
                                    · cases h), e, if_neg (by omega)]
theorem i64P_sub {l o : List Pt} (h : ∀ x ∈ o, x ∈ l) (g : i64P l) : i64P o := fun i hi => by
  obtain ⟨j, hj, e⟩ := mem_gp (h _ (gp_mem hi))
  rw [← e]; exact g j hj
theorem bne_no {a : Int} {A : Prop} (h : (a != a) = true) : A := by simp at h
theorem tmod_idx {b : Int} {n : Nat} (h1 : 0 ≤ b) : b.tmod (n : Int) = ((b.toNat % n : Nat) : Int) := by
  rw [Int.tmod_eq_emod_of_nonneg h1]
  have : b = (b.toNat : Int) := (Int.toNat_of_nonneg h1).symm
  rw [this]; simp
end Go.Proofs.Ytaobaeiohjgdcaa
namespace Go.Proofs.Ytaobaeiohjgdcaa.hullOrder
open Go Go.V Go.RowKit
set_option maxRecDepth 20000 in
set_option maxHeartbeats 2000000 in
theorem law_fn (v0 v1 : Value) (l : List Pt) (bs : List Int) (M : Mem) (h0 : Pts M v0 l) (g0 : i64P l) (h1 : BysV M v1 bs) : V.Fn Try.prog 8 [v0, v1] M fun rs _ => rs = [.bool true] := by
  obtain ⟨ad, c, rfl⟩ := h0.shape
  obtain ⟨bd, d, rfl, hm1, hrd1⟩ := h1.get
  obtain ⟨_, hm0, hrd0⟩ := h0.cellsOf
  unfold maxLen at hm0
  obtain ⟨⟨p, e⟩, hr⟩ : ∃ r, hullB l = r := ⟨_, rfl⟩
  refine Fn.of_vc cxOK Try.func8 rfl rfl rfl ?_
  repeat (first | refine VIf.tt ?_ | refine VIf.ff ?_)
  refine VFn.mk _ (head03_fn M) ?_
  rintro rs M1 hM1 rfl
  repeat (first | refine VIf.tt ?_ | refine VIf.ff ?_)
  refine VIf.mk (fun _ => ?_) (fun hl40 => ?_)
  · repeat (first | refine VIf.tt ?_ | refine VIf.ff ?_)
    exact VFact.mk rfl trivial
  repeat (first | refine VIf.tt ?_ | refine VIf.ff ?_)
  refine VIf.mk (fun _ => ?_) (fun hb40 => ?_)
  · repeat (first | refine VIf.tt ?_ | refine VIf.ff ?_)
    exact VFact.mk rfl trivial
  have hl40 : l.length ≤ 40 := by have := of_decide_eq_false hl40; omega
  have hb40 : bs.length ≤ 40 := by have := of_decide_eq_false hb40; omega
  repeat (first | refine VIf.tt ?_ | refine VIf.ff ?_)
  refine VFn.mk _ (Hull_is (h0.le hM1) g0 hr) ?_
  rintro rs M2 hM2 ⟨u, rfl, hu⟩
  have m2 := hM1.trans hM2
  obtain ⟨ud, uc, rfl⟩ := hu.shape
  repeat (first | refine VIf.tt ?_ | refine VIf.ff ?_)
  refine VCode.loop cxOK Nat
    (fun i => ⟨[(0, .v (.slice ad l.length c)), (1, .v (.slice bd bs.length d)), (5, .v (.bool true)), (6, .v (.slice ud p.length uc)), (7, .v (.int .i64 e)), (8, .row 0), (32, .v (.int .i64 l.length)), (33, .v (.int .i64 i))], [(0, some (.row 39 2 (l.reverse.take i).length (cellsP (l.reverse.take i))))], 1, M2, 101, ⟨fun _ => none, none, fun _ => none⟩⟩)
    (fun i => i ≤ l.length) (fun i => l.length - i) 0 (Nat.zero_le _) ?_ ?_
  · exact Wk.nil 8 39 2 rfl (Wk.mk' id (by repeat' constructor) (by repeat' constructor) (injOK_id _) rfl rfl rfl)
  rintro i hi m
  have hi : i ≤ l.length := hi
  repeat (first | refine VIf.tt ?_ | refine VIf.ff ?_)
  refine VIf.mk (fun hlt => ?_) (fun hge => ?_)
  · have hlt : i < l.length := lt_of_dec hlt
    obtain ⟨ad1, e1, r1⟩ := hrd0 M2 m2 (l.length - 1 - i) (by omega)
    repeat (first | refine VIf.tt ?_ | refine VIf.ff ?_)
    refine VArith.ok (by first | omega | (simp only; omega)) (by first | omega | (simp only; omega)) ?_
    repeat (first | refine VIf.tt ?_ | refine VIf.ff ?_)
    refine VArith.ok (by first | omega | (simp only; omega)) (by first | omega | (simp only; omega)) ?_
    repeat (first | refine VIf.tt ?_ | refine VIf.ff ?_)
    refine VIdx.mk ad1 (l.length - 1 - i) e1 (by omega) (by omega) ?_
    repeat (first | refine VIf.tt ?_ | refine VIf.ff ?_)
    refine VReads.mk [.int .i64 (gp l (l.length - 1 - i)).1, .int .i64 (gp l (l.length - 1 - i)).2] rfl r1 ?_
    repeat (first | refine VIf.tt ?_ | refine VIf.ff ?_)
    refine VFact.mk (by simp only; rw [List.length_take]; omega) ?_
    repeat (first | refine VIf.tt ?_ | refine VIf.ff ?_)
    refine VArith.ok (by first | omega | (simp only; omega)) (by first | omega | (simp only; omega)) ?_
    have he : l.reverse.take (i + 1) = l.reverse.take i ++ [gp l (l.length - 1 - i)] := by
      have h1 : l.length - 1 - i < l.length := by omega
      have : l.reverse[i]? = some (gp l (l.length - 1 - i)) := by
        simp [gp, List.getElem?_reverse, hlt, h1]
      rw [List.take_add_one, this]; rfl
    have e1 := congrArg List.length he
    rw [List.length_append] at e1
    have e2 := (congrArg cellsP he).trans (cells_app1 _ _)
    exact ⟨i + 1, hlt, (by first | omega | (simp only; omega)), Wk.mk' (fun k => if k = 0 then 2 else k) (by repeat' constructor) (by repeat' (first | exact e1.symm | exact e1 | exact e2.symm | exact e2 | constructor)) (injOK_b rfl) rfl rfl rfl⟩
  have : i = l.length := by have := ge_of_dec hge; omega
  subst this
  rw [List.take_of_length_le (show l.reverse.length ≤ l.length by simp)]
  repeat (first | refine VIf.tt ?_ | refine VIf.ff ?_)
  refine VCode.loop cxOK (Nat × List Pt)
    (fun s => ⟨[(0, .v (.slice ad l.length c)), (5, .v (.bool true)), (6, .v (.slice ud p.length uc)), (7, .v (.int .i64 e)), (8, .row 0), (48, .v (.slice bd bs.length d)), (49, .v (.int .i64 bs.length)), (50, .v (.int .i64 s.1))], [(0, some (.row 39 2 s.2.length (cellsP s.2)))], 1, M2, 101, ⟨fun _ => none, none, fun _ => none⟩⟩)
    (fun s => s.1 ≤ bs.length ∧ (∀ x, x ∈ s.2 ↔ x ∈ l) ∧ s.2.length ≤ 40 + s.1) (fun s => bs.length - s.1) (0, l.reverse) ⟨Nat.zero_le _, fun x => List.mem_reverse, by simp only [List.length_reverse]; omega⟩ (Wk.mk' id (by repeat' constructor) (by repeat' constructor) (injOK_id _) rfl rfl rfl) ?_
  rintro ⟨j, o⟩ ⟨hj, ho, hol⟩ m
  have hj : j ≤ bs.length := hj
  have ho : ∀ x, x ∈ o ↔ x ∈ l := ho
  have hol : o.length ≤ 40 + j := hol
  repeat (first | refine VIf.tt ?_ | refine VIf.ff ?_)
  refine VIf.mk (fun hlt => ?_) (fun hge => ?_)
  · have hlt : j < bs.length := lt_of_dec hlt
    obtain ⟨ad2, b, e2, b1, b2, r2⟩ := hrd1 M2 m2 j hlt
    repeat (first | refine VIf.tt ?_ | refine VIf.ff ?_)
    refine VIdx.mk ad2 j e2 rfl hlt ?_
    repeat (first | refine VIf.tt ?_ | refine VIf.ff ?_)
    refine VRead.mk (.int .u8 b) r2 ?_
    repeat (first | refine VIf.tt ?_ | refine VIf.ff ?_)
    refine VIf.mk (fun hp => ?_) (fun hp => ?_)
    · have hp : 0 < l.length := by have := of_decide_eq_true hp; omega
      obtain ⟨ad1, e1, r1⟩ := hrd0 M2 m2 (b.toNat % l.length) (Nat.mod_lt _ hp)
      repeat (first | refine VIf.tt ?_ | refine VIf.ff ?_)
      refine VArith.ok (by first | omega | (simp only; omega)) (by first | omega | (simp only; omega)) ?_
      repeat (first | refine VIf.tt ?_ | refine VIf.ff ?_)
      refine VDiv.mk (by omega) ?_
      repeat (first | refine VIf.tt ?_ | refine VIf.ff ?_)
      refine VIdx.mk ad1 (b.toNat % l.length) e1 (tmod_idx b1) (Nat.mod_lt _ hp) ?_
      repeat (first | refine VIf.tt ?_ | refine VIf.ff ?_)
      refine VReads.mk [.int .i64 (gp l (b.toNat % l.length)).1, .int .i64 (gp l (b.toNat % l.length)).2] rfl r1 ?_
      repeat (first | refine VIf.tt ?_ | refine VIf.ff ?_)
      refine VFact.mk (by simp only; omega) ?_
      repeat (first | refine VIf.tt ?_ | refine VIf.ff ?_)
      refine VArith.ok (by first | omega | (simp only; omega)) (by first | omega | (simp only; omega)) ?_
      have he := cells_app1 o (gp l (b.toNat % l.length))
      have hel : (o ++ [gp l (b.toNat % l.length)]).length = o.length + 1 := by simp
      refine ⟨(j + 1, o ++ [gp l (b.toNat % l.length)]), ⟨hlt, fun x => ?_, by simp only [hel]; omega⟩, (by first | omega | (simp only; omega)), Wk.mk' (fun k => if k = 0 then 2 else k) (by repeat' constructor) (by repeat' (first | exact hel.symm | exact hel | exact he.symm | exact he | constructor)) (injOK_b rfl) rfl rfl rfl⟩
      simp only [List.mem_append, List.mem_singleton, ho]
      constructor
      · rintro (h | rfl)
        · exact h
        · exact gp_mem (Nat.mod_lt _ hp)
      · exact .inl
    · repeat (first | refine VIf.tt ?_ | refine VIf.ff ?_)
      refine VArith.ok (by first | omega | (simp only; omega)) (by first | omega | (simp only; omega)) ?_
      exact ⟨(j + 1, o), ⟨hlt, ho, by simp only; omega⟩, (by first | omega | (simp only; omega)), (Wk.mk' id (by repeat' constructor) (by repeat' constructor) (injOK_id _) rfl rfl rfl)⟩
  · repeat (first | refine VIf.tt ?_ | refine VIf.ff ?_)
    refine VFz.mk fun x B M3 hM3 hx => ?_
    have hx : Pts M3 x o := hx
    have m3 := m2.trans hM3
    have hr2 : hullB o = (p, e) := by rw [hull_congr ho (by omega) (by omega)]; exact hr
    repeat (first | refine VIf.tt ?_ | refine VIf.ff ?_)
    refine VFn.mk _ (Hull_is hx (i64P_sub (fun x hx => (ho x).1 hx) g0) hr2) ?_
    rintro rs M4 hM4 ⟨w, rfl, hw⟩
    have m4' : M2.le M4 := hM3.trans hM4
    repeat (first | refine VIf.tt ?_ | refine VIf.ff ?_)
    refine VIf.mk (fun h => bne_no h) (fun _ => ?_)
    repeat (first | refine VIf.tt ?_ | refine VIf.ff ?_)
    refine VFn.p (Same_is (hu.le m4') hw) ?_
    rcases hull_split hr with ⟨rfl, hh, hV, _⟩ | ⟨he, _⟩
    · repeat (first | refine VIf.tt ?_ | refine VIf.ff ?_)
      refine VFn.mk _ (Hull_is (hu.le m4') (i64P_valid hV) (hull_self hV)) ?_
      rintro rs M5 hM5 ⟨w2, rfl, hw2⟩
      repeat (first | refine VIf.tt ?_ | refine VIf.ff ?_)
      refine VFn.p (Same_is hw2 (hu.le (m4'.trans hM5))) ?_
      repeat (first | refine VIf.tt ?_ | refine VIf.ff ?_)
      exact VFact.mk rfl trivial
    · repeat (first | refine VIf.tt ?_ | refine VIf.ff ?_)
      refine VIf.mk (fun _ => ?_) (fun h => absurd (bne_eq_false_iff_eq.1 h) he)
      repeat (first | refine VIf.tt ?_ | refine VIf.ff ?_)
      exact VFact.mk rfl trivial
end Go.Proofs.Ytaobaeiohjgdcaa.hullOrder

/- The bridge: slices of bytes. -/
namespace Go.Proofs.Ytaobaeiohjgdcaa
open Go Go.V Go.RowKit
section
variable {H : Type} {enc : TypeId × Value → H} {w : World} {sp : Nat → Bool} {held : Bool}
def ByteD (_ : Mem) (n : Int) (r : List Value) : Prop := r = [.int .u8 n] ∧ 0 ≤ n ∧ n ≤ 255
theorem opens5 : Opens enc Try.prog w sp held ByteD 5 1 := by
  intro fuel cs x h
  obtain ⟨n, rfl, _, hw⟩ := DataW.trod_int Try.underlying5 h
  have : 0 ≤ n ∧ n ≤ 255 := by simpa [Lit.wf, IntKind.min, IntKind.max, IntKind.signed, IntKind.bits] using hw
  exact ⟨n, ⟨rfl, this⟩, rfl, by simp [Value.oneCell']⟩
theorem BysV.of_arr {M : Mem} {v : Value} {bs : List Int} (h : Arr ByteD M 1 v bs) : BysV M v bs := by
  obtain ⟨rows, h1, h2, h3, h4⟩ := h
  have e : rows = bs.map fun n => [Value.int .u8 n] := by
    apply List.ext_getElem?
    intro i
    rw [List.getElem?_map]
    cases hp : bs[i]? with
    | none =>
      have := List.getElem?_eq_none_iff.1 hp
      simp only [Option.map_none]
      exact List.getElem?_eq_none (by omega)
    | some p =>
      have hi := (List.getElem?_eq_some_iff.1 hp).1
      have hr : rows[i]? = some (rows[i]'(by omega)) := List.getElem?_eq_getElem (by omega)
      rw [hr]
      simp only [Option.map_some, Option.some.injEq]
      exact (h4 i p _ hp hr).1
  have e2 : rows.flatten = bs.map (Value.int .u8) := by
    rw [e]
    clear h1 h2 h3 h4 e
    induction bs with
    | nil => rfl
    | cons b bs ih => simp only [List.map_cons, List.flatten_cons, ih]; rfl
  rw [e2] at h3
  refine ⟨h3, fun b hb => ?_⟩
  obtain ⟨i, hi, rfl⟩ := List.getElem_of_mem hb
  have hr : rows[i]? = some (rows[i]'(by omega)) := List.getElem?_eq_getElem (by omega)
  exact (h4 i _ _ (List.getElem?_eq_getElem hi) hr).2
theorem opens57 : Opens enc Try.prog w sp held (fun M l r => ∃ v, r = [v] ∧ BysV M v l) 57 1 := by
  intro fuel cs x h
  obtain ⟨l, ⟨v, rfl, ha⟩, h2, h3⟩ := opens_slice Try.underlying57 (k := 1) (by kernel_rfl) (by omega) opens5 fuel cs x h
  exact ⟨l, ⟨v, rfl, BysV.of_arr ha⟩, h2, h3⟩
end
end Go.Proofs.Ytaobaeiohjgdcaa

/- Plain law: what is moved alike. -/
namespace Go.Proofs.Ytaobaeiohjgdcaa
open Go Go.V
def mv (q p : Pt) : Pt := (p.1 + q.1, p.2 + q.2)
theorem len_move (q : Pt) (ps : List Pt) : (moveP q ps).length = ps.length := by simp [moveP]
theorem gp_move (q : Pt) {ps : List Pt} {i : Nat} (h : i < ps.length) : gp (moveP q ps) i = mv q (gp ps i) := by simp [gp, moveP, mv, h]
theorem cross_move (q a b c : Pt) : crossP (mv q a) (mv q b) (mv q c) = crossP a b c := by unfold crossP cross mv; grind
theorem betw_move (q a b x : Pt) : betwB (mv q a) (mv q b) (mv q x) = betwB a b x := by
  unfold betwB mv; refine decide_eq_decide.2 ?_; dsimp only
  have e1 : min (a.1 + q.1) (b.1 + q.1) = min a.1 b.1 + q.1 := by omega
  have e2 : max (a.1 + q.1) (b.1 + q.1) = max a.1 b.1 + q.1 := by omega
  have e3 : min (a.2 + q.2) (b.2 + q.2) = min a.2 b.2 + q.2 := by omega
  have e4 : max (a.2 + q.2) (b.2 + q.2) = max a.2 b.2 + q.2 := by omega
  rw [e1, e2, e3, e4]; omega
theorem has_move (q : Pt) (ps : List Pt) (x : Pt) : hasB (moveP q ps) (mv q x) = hasB ps x := by
  unfold hasB
  rw [len_move]
  by_cases h1 : ps.length = 1
  · rw [if_pos h1, if_pos h1, gp_move q (by omega), Bool.eq_iff_iff, beq_iff_eq, beq_iff_eq]
    unfold mv
    constructor
    · intro h
      simp only [Prod.mk.injEq] at h
      exact Prod.ext (by omega) (by omega)
    · intro h; rw [h]
  rw [if_neg h1, if_neg h1]
  by_cases h2 : ps.length = 2
  · rw [if_pos h2, if_pos h2, gp_move q (by omega), gp_move q (by omega), cross_move, betw_move]
  rw [if_neg h2, if_neg h2, Bool.eq_iff_iff, all_iff, all_iff]
  have e : ∀ i, i < ps.length → sideB (moveP q ps) (mv q x) i = sideB ps x i := fun i hi => by
    unfold sideB
    rw [len_move, gp_move q hi, gp_move q (Nat.mod_lt _ (by omega)), cross_move]
  exact ⟨fun h i hi => by rw [← e i hi]; exact h i hi, fun h i hi => by rw [e i hi]; exact h i hi⟩
theorem within_move (q : Pt) (p r : List Pt) : withinB (moveP q p) (moveP q r) = withinB p r := by
  unfold withinB
  show (p.map (mv q)).all (hasB (moveP q r)) = _
  rw [List.all_map]
  congr 1
  funext x
  exact has_move q r x
def moveC (q : Pt) (c : CaseS) : CaseS := ⟨c.sn, c.cl, c.st.map (moveP q)⟩
theorem left_move (q : Pt) (cs : List CaseS) (p : List Pt) : leftB (cs.map (moveC q)) (moveP q p) = leftB cs p := by
  unfold leftB
  rw [List.any_map]
  congr 1
  funext c
  show (c.st.map (moveP q)).any _ = _
  rw [List.any_map]
  congr 1
  funext x
  show (!withinB (moveP q x) (moveP q p)) = _
  rw [within_move]
theorem kind_move (q : Pt) (cs : List CaseS) (p : List Pt) : kindB (cs.map (moveC q)) (moveP q p) = kindB cs p := by
  unfold kindB
  rw [left_move]
  by_cases h : cs = []
  · subst h; rfl
  · rw [if_neg h, if_neg (by simpa using h)]
theorem gc_move (q : Pt) {cs : List CaseS} {i : Nat} (h : i < cs.length) : gc (cs.map (moveC q)) i = moveC q (gc cs i) := by simp [gc, h]
theorem cases_move (q : Pt) {cs : List CaseS} (h : casesB cs = true) (hv : ∀ i, i < cs.length → ((gc cs i).st.map (moveP q)).all validB = true) : casesB (cs.map (moveC q)) = true := by
  simp only [casesB, Bool.and_eq_true, decide_eq_true_eq, all_iff, List.length_map] at h ⊢
  refine ⟨h.1, fun i hi => ?_⟩
  have hi' := h.2 i hi
  simp only [caseV, Bool.and_eq_true] at hi' ⊢
  refine ⟨?_, ?_⟩
  · rw [gc_move q hi]
    have h1 := hi'.1
    simp only [case1, regionB, Bool.and_eq_true, decide_eq_true_eq] at h1 ⊢
    refine ⟨⟨⟨?_, ?_, hv i hi⟩, h1.1.2⟩, h1.2⟩
    · intro e
      exact h1.1.1.1 (by simpa [moveC] using e)
    · show ((gc cs i).st.map (moveP q)).length ≤ 32
      rw [List.length_map]; exact h1.1.1.2.1
  · have h2 := hi'.2
    simp only [Bool.or_eq_true, beq_iff_eq, decide_eq_true_eq] at h2 ⊢
    rcases h2 with h2 | h2
    · exact .inl h2
    · refine .inr ?_
      rw [gc_move q hi, gc_move q (show i - 1 < cs.length by omega)]
      exact h2
theorem raise_split {cs : List CaseS} {q : List Pt} {a : Int} (h : raiseB cs q = (a, 0)) : casesB cs = true ∧ validB q = true ∧ a = kindB cs q := by
  unfold raiseB at h
  split at h
  · rename_i hb
    simp only [Bool.and_eq_true] at hb
    cases h
    exact ⟨hb.1, hb.2, rfl⟩
  · cases h
theorem DL.le {α : Type} {D : Mem → α → List Value → Prop} (hD : ∀ M M' x r, M.le M' → D M x r → D M' x r) {M M' : Mem} (hM : M.le M') : ∀ {l : List α} {rows : List (List Value)}, DL D M l rows → DL D M' l rows
  | [], [], _ => trivial
  | _ :: _, _ :: _, h => ⟨hD _ _ _ _ hM h.1, DL.le hD hM h.2⟩
  | [], _ :: _, h => h.elim
  | _ :: _, [], h => h.elim
theorem DL.snoc {α : Type} {D : Mem → α → List Value → Prop} {M : Mem} {x : α} {r : List Value} (hx : D M x r) : ∀ {l : List α} {rows : List (List Value)}, DL D M l rows → DL D M (l ++ [x]) (rows ++ [r])
  | [], [], _ => ⟨hx, trivial⟩
  | _ :: _, _ :: _, h => ⟨h.1, DL.snoc hx h.2⟩
  | [], _ :: _, h => h.elim
  | _ :: _, [], h => h.elim
theorem CaseD.le (M M' : Mem) (x : CaseS) (r : List Value) (hM : M.le M') : CaseD M x r → CaseD M' x r := fun ⟨a, b, s, h1, h2, h3, h4⟩ => ⟨a, b, s, h1, h2.le hM, h3.le hM, h4.le hM⟩
theorem PolyD.le (M M' : Mem) (x : List Pt) (r : List Value) (hM : M.le M') : PolyD M x r → PolyD M' x r := fun ⟨v, h1, h2, h3⟩ => ⟨v, h1, h2.le hM, h3⟩
theorem take_mapC {α β : Type} (d : α) (f : α → β) (l : List α) {i : Nat} (h : i < l.length) : (l.take (i + 1)).map f = (l.take i).map f ++ [f (l.getD i d)] := by
  rw [List.take_add_one, List.map_append]; simp [h]
theorem PW.le {M M' : Mem} (hM : M.le M') : ∀ {a : List Value} {b : List (List Pt)}, PW M a b → PW M' a b
  | [], [], _ => trivial
  | _ :: _, _ :: _, h => ⟨⟨h.1.1.le hM, h.1.2⟩, PW.le hM h.2⟩
  | [], _ :: _, h => h.elim
  | _ :: _, [], h => h.elim
theorem PW.dl {M : Mem} : ∀ {a : List Value} {b : List (List Pt)}, PW M a b → DL PolyD M b (a.map fun w => [w])
  | [], [], _ => trivial
  | _ :: _, _ :: _, h => ⟨⟨_, rfl, h.1.1, h.1.2⟩, PW.dl h.2⟩
  | [], _ :: _, h => h.elim
  | _ :: _, [], h => h.elim
theorem flat_one : ∀ ws : List Value, (ws.map fun w => [w]).flatten = ws
  | [] => rfl
  | w :: ws => by simp only [List.map_cons, List.flatten_cons, flat_one ws]; rfl
theorem RegV.of_pw {M : Mem} {v : Value} {ws : List Value} {r : List (List Pt)} (h : SlAt M 1 v ws.length ws) (hw : PW M ws r) : RegV M v r := by
  refine Arr.of (ws.map fun w => [w]) (fun r hr => by obtain ⟨w, _, rfl⟩ := List.mem_map.1 hr; rfl) ?_ hw.dl
  rw [flat_one, ← hw.get.1]; exact h
theorem move_i64 {q : Pt} {ps : List Pt} (h : validB (moveP q ps) = true) : i64P (moveP q ps) := fun i hi => ⟨isC_i64 (allC_of h i hi).1, isC_i64 (allC_of h i hi).2⟩
theorem all_take {α β : Type} (d : α) (f : α → β) (g : β → Bool) (l : List α) {i : Nat} (h : i < l.length) (h1 : ((l.take i).map f).all g = true) (h2 : g (f (l.getD i d)) = true) : ((l.take (i + 1)).map f).all g = true := by
  rw [take_mapC d f l h, List.all_append, h1]; simpa using h2
end Go.Proofs.Ytaobaeiohjgdcaa

/- Fewer cases: a part of valid cases is valid. -/
namespace Go.Proofs.Ytaobaeiohjgdcaa
open Go
theorem lexB_eq : ∀ {a b : List Int}, lexB a b = 0 ↔ a = b
  | [], [] => by simp [lexB]
  | [], _ :: _ => by simp [lexB]
  | _ :: _, [] => by simp [lexB]
  | x :: a, y :: b => by
    have hs := cmpI_sgn x y
    simp only [lexB, List.cons.injEq]
    by_cases e : cmpI x y = 0
    · rw [if_neg (fun h => h e), lexB_eq]
      exact ⟨fun h => ⟨hs.2.1 e, h⟩, fun h => h.2⟩
    · rw [if_pos e]
      exact ⟨fun h => absurd h e, fun h => absurd (hs.2.2 h.1) e⟩
theorem lexB_trans : ∀ {a b c : List Int}, lexB a b < 0 → lexB b c < 0 → lexB a c < 0
  | [], [], _, h, _ => by simp [lexB] at h
  | _ :: _, [], _, h, _ => by simp [lexB] at h
  | _, _ :: _, [], _, h => by simp [lexB] at h
  | [], _ :: _, _ :: _, _, _ => by simp [lexB]
  | x :: a, y :: b, z :: c, h, k => by
    have h1 := cmpI_sgn x y
    have h2 := cmpI_sgn y z
    have h3 := cmpI_sgn x z
    simp only [lexB] at h k ⊢
    by_cases e1 : cmpI x y = 0
    · rw [if_neg (fun h => h e1)] at h
      have := h1.2.1 e1
      subst this
      by_cases e2 : cmpI x z = 0
      · rw [if_neg (fun h => h e2)] at k ⊢
        exact lexB_trans h k
      · rw [if_pos e2] at k ⊢
        exact k
    · rw [if_pos e1] at h
      have hxy := h1.1.1 h
      have hyz : y ≤ z := by
        by_cases e2 : cmpI y z = 0
        · exact Int.le_of_eq (h2.2.1 e2)
        · rw [if_pos e2] at k; have := h2.1.1 k; omega
      have := h3.1.2 (by omega)
      rw [if_pos (by omega)]
      exact this
theorem listsC_eq {a b : List Int} : listsC a b = 0 ↔ a = b := by
  have hs := cmpI_sgn a.length b.length
  unfold listsC
  by_cases e : cmpI (a.length : Int) b.length = 0
  · rw [if_neg (fun h => h e)]; exact lexB_eq
  · rw [if_pos e]
    exact ⟨fun h => absurd h e, fun h => absurd (hs.2.2 (by rw [h])) e⟩
theorem listsC_trans {a b c : List Int} (h : listsC a b < 0) (k : listsC b c < 0) : listsC a c < 0 := by
  have h1 := cmpI_sgn a.length b.length
  have h2 := cmpI_sgn b.length c.length
  have h3 := cmpI_sgn a.length c.length
  unfold listsC at h k ⊢
  by_cases e1 : cmpI (a.length : Int) b.length = 0
  · rw [if_neg (fun h => h e1)] at h
    have g1 := h1.2.1 e1
    by_cases e2 : cmpI (b.length : Int) c.length = 0
    · rw [if_neg (fun h => h e2)] at k
      have g2 := h2.2.1 e2
      rw [if_neg (fun h => h (h3.2.2 (by omega)))]
      exact lexB_trans h k
    · rw [if_pos e2] at k
      have := h3.1.2 (by have := h2.1.1 k; omega)
      rw [if_pos (by omega)]; exact this
  · rw [if_pos e1] at h
    have g1 := h1.1.1 h
    have g2 : (b.length : Int) ≤ c.length := by
      by_cases e2 : cmpI (b.length : Int) c.length = 0
      · exact Int.le_of_eq (h2.2.1 e2)
      · rw [if_pos e2] at k; have := h2.1.1 k; omega
    have := h3.1.2 (by omega)
    rw [if_pos (by omega)]; exact this
theorem caseC_trans {a b c : CaseS} (h : caseC a b < 0) (k : caseC b c < 0) : caseC a c < 0 := by
  unfold caseC at h k ⊢
  by_cases e1 : listsC a.sn b.sn = 0
  · rw [if_neg (fun h => h e1)] at h
    rw [listsC_eq.1 e1]
    by_cases e2 : listsC b.sn c.sn = 0
    · rw [if_neg (fun h => h e2)] at k ⊢
      exact listsC_trans h k
    · rw [if_pos e2] at k ⊢
      exact k
  · rw [if_pos e1] at h
    by_cases e2 : listsC b.sn c.sn = 0
    · rw [← listsC_eq.1 e2, if_pos e1]
      exact h
    · rw [if_pos e2] at k
      have := listsC_trans h k
      rw [if_pos (by omega)]; exact this
theorem cases_iff {cs : List CaseS} : casesB cs = true ↔ cs.length ≤ 200 ∧ (∀ c ∈ cs, case1 c = true) ∧ cs.Pairwise fun a b => caseC a b < 0 := by
  have hg : ∀ i (h : i < cs.length), gc cs i = cs[i] := fun i h => by simp [gc, h]
  simp only [casesB, Bool.and_eq_true, decide_eq_true_eq, all_iff, caseV, Bool.or_eq_true, beq_iff_eq]
  constructor
  · rintro ⟨h1, h2⟩
    refine ⟨h1, fun c hc => ?_, ?_⟩
    · obtain ⟨i, hi, rfl⟩ := List.mem_iff_getElem.1 hc
      rw [← hg i hi]; exact (h2 i hi).1
    · have adj : ∀ j, ∀ i, i < j → ∀ hj : j < cs.length, caseC (gc cs i) (gc cs j) < 0 := by
        intro j
        induction j with
        | zero => intro i hi; omega
        | succ j ih =>
          intro i hi hj
          have hs : caseC (gc cs j) (gc cs (j + 1)) < 0 := by
            rcases (h2 (j + 1) hj).2 with h | h
            · omega
            · exact h
          by_cases e : i = j
          · rw [e]; exact hs
          · exact caseC_trans (ih i (by omega) (by omega)) hs
      rw [List.pairwise_iff_getElem]
      intro i j hi hj hij
      rw [← hg i hi, ← hg j hj]
      exact adj j i hij hj
  · rintro ⟨h1, h2, h3⟩
    refine ⟨h1, fun i hi => ⟨?_, ?_⟩⟩
    · rw [hg i hi]; exact h2 _ (List.getElem_mem _)
    · by_cases e : i = 0
      · exact .inl e
      · refine .inr ?_
        rw [hg i hi, hg (i - 1) (by omega)]
        exact List.pairwise_iff_getElem.1 h3 _ _ _ _ (by omega)
theorem cases_sub {cs ds : List CaseS} (h : casesB cs = true) (hs : ds.Sublist cs) : casesB ds = true := by
  obtain ⟨h1, h2, h3⟩ := cases_iff.1 h
  exact cases_iff.2 ⟨Nat.le_trans hs.length_le h1, fun c hc => h2 c (hs.subset hc), h3.sublist hs⟩
theorem left_sub {cs ds : List CaseS} {q : List Pt} (h : leftB cs q = false) (hs : ds.Sublist cs) : leftB ds q = false := by
  unfold leftB at h ⊢
  rw [List.any_eq_false] at h ⊢
  exact fun c hc => h c (hs.subset hc)
/-- With fewer cases but at least one. -/
theorem kind_sub {cs ds : List CaseS} {q : List Pt} (h : leftB cs q = false) (hs : ds.Sublist cs) : kindB ds q = if ds = [] then 1 else 0 := by
  unfold kindB
  by_cases e : ds = []
  · rw [if_pos e, if_pos e]
  · rw [if_neg e, if_neg e, left_sub h hs]; rfl
theorem left_wide {cs : List CaseS} {p w : List Pt} (h : leftB cs p = false) (hV : validB p = true) (hw : withinB p w = true) : leftB cs w = false := by
  unfold leftB at h ⊢
  rw [List.any_eq_false] at h ⊢
  intro c hc
  have h1 := h c hc
  simp only [Bool.not_eq_true, List.any_eq_false] at h1 ⊢
  intro r hr
  have h2 := h1 r hr
  simp only [Bool.not_eq_eq_eq_not, Bool.not_true, Bool.not_eq_false] at h2 ⊢
  unfold withinB at h2 ⊢
  exact List.all_eq_true.2 fun z hz => within_has hV hw (List.all_eq_true.1 h2 z hz)
end Go.Proofs.Ytaobaeiohjgdcaa

/- AlarmFewer: with fewer cases, but at least one, or with a protection that has the other one, no alarm is raised that was not before. No conditions beyond the statement's own. -/
namespace Go.Proofs.Ytaobaeiohjgdcaa.alarmFewer
open Go Go.V Go.RowKit Go.ChangeShapes Go.WideShapes Go.ChangeAt
set_option maxRecDepth 20000 in
set_option maxHeartbeats 2000000 in
theorem law_fn (v0 v1 v2 : Value) (cs : List CaseS) (p q : List Pt) (keep : Int) (M : Mem) (h0 : CasV M v0 cs) (h1 : Pts M v1 p) (g1 : i64P p) (h2 : Pts M v2 q) (g2 : i64P q) : V.Fn Try.prog 13 [v0, v1, v2, .int .u64 keep] M fun rs _ => rs = [.bool true] := by
  obtain ⟨ad, c, rfl, hm, hrd⟩ := h0.get
  obtain ⟨wd, wc, rfl⟩ := h1.shape
  obtain ⟨zd, zc, rfl⟩ := h2.shape
  refine Fn.of_vc cxOK Try.func13 rfl rfl rfl ?_
  repeat (first | refine VIf.tt ?_ | refine VIf.ff ?_)
  refine VFn.mk _ (head_fn M) ?_
  rintro rs M1 hM1 rfl
  repeat (first | refine VIf.tt ?_ | refine VIf.ff ?_)
  refine VFn.mk _ (Few22_fn _ cs M1 (h0.le hM1)) ?_
  rintro rs M2 hM2 ⟨b1, rfl, _⟩
  have m2 : M.le M2 := hM1.trans hM2
  repeat (first | refine VIf.tt ?_ | refine VIf.ff ?_)
  refine VIf.mk (fun _ => ?_) (fun _ => ?_)
  · repeat (first | refine VIf.tt ?_ | refine VIf.ff ?_)
    exact VFact.mk rfl trivial
  repeat (first | refine VIf.tt ?_ | refine VIf.ff ?_)
  refine VFn.p (Few03_fn _ p M2 (h1.le m2)) ?_
  repeat (first | refine VIf.tt ?_ | refine VIf.ff ?_)
  refine VIf.mk (fun _ => ?_) (fun hp8 => ?_)
  · repeat (first | refine VIf.tt ?_ | refine VIf.ff ?_)
    exact VFact.mk rfl trivial
  repeat (first | refine VIf.tt ?_ | refine VIf.ff ?_)
  refine VFn.p (Few03_fn _ q M2 (h2.le m2)) ?_
  repeat (first | refine VIf.tt ?_ | refine VIf.ff ?_)
  refine VIf.mk (fun _ => ?_) (fun hq8 => ?_)
  · repeat (first | refine VIf.tt ?_ | refine VIf.ff ?_)
    exact VFact.mk rfl trivial
  repeat (first | refine VIf.tt ?_ | refine VIf.ff ?_)
  refine VArith.wr ?_
  repeat (first | refine VIf.tt ?_ | refine VIf.ff ?_)
  refine VIf.mk (fun _ => ?_) (fun _ => ?_)
  · repeat (first | refine VIf.tt ?_ | refine VIf.ff ?_)
    exact VFact.mk rfl trivial
  obtain ⟨⟨a, e⟩, hr⟩ : ∃ r, raiseB cs p = r := ⟨_, rfl⟩
  repeat (first | refine VIf.tt ?_ | refine VIf.ff ?_)
  refine VFn.mk _ (Raise_is (h0.le m2) (h1.le m2) g1 hr) ?_
  rintro rs M3 hM3 rfl
  have m3 : M.le M3 := m2.trans hM3
  repeat (first | refine VIf.tt ?_ | refine VIf.ff ?_)
  refine VIf.mk (fun _ => ?_) (fun he => ?_)
  · repeat (first | refine VIf.tt ?_ | refine VIf.ff ?_)
    exact VFact.mk rfl trivial
  repeat (first | refine VIf.tt ?_ | refine VIf.ff ?_)
  refine VIf.mk (fun _ => ?_) (fun ha => ?_)
  · repeat (first | refine VIf.tt ?_ | refine VIf.ff ?_)
    exact VFact.mk rfl trivial
  obtain rfl : e = 0 := bne_eq_false_iff_eq.1 he
  obtain rfl : a = 0 := bne_eq_false_iff_eq.1 ha
  obtain ⟨hcs, hV, hk⟩ := raise_split hr
  have hleft : leftB cs p = false := by
    unfold kindB at hk
    split at hk
    · cases hk
    · split at hk
      · cases hk
      · simpa using ‹¬ leftB cs p = true›
  have hne : cs ≠ [] := by
    intro h
    unfold kindB at hk
    rw [if_pos h] at hk; cases hk
  have hlen : cs.length ≤ 200 := (cases_iff.1 hcs).1
  repeat (first | refine VIf.tt ?_ | refine VIf.ff ?_)
  refine VCode.loop cxOK (Nat × List CaseS × List (List Value))
    (fun (⟨i, ds, rows⟩ : Nat × List CaseS × List (List Value)) => ⟨[(0, .v (.slice ad cs.length c)), (1, .v (.slice wd p.length wc)), (2, .v (.slice zd q.length zc)), (3, .v (.int .u64 keep)), (9, .v (.bool true)), (12, .row 0), (57, .v (.slice ad cs.length c)), (58, .v (.int .i64 cs.length)), (59, .v (.int .i64 i))],
      [(0, some (.row 46 3 rows.length rows.flatten))], 1, M3, 134, ⟨fun _ => none, none, fun _ => none⟩⟩)
    (fun s => s.1 ≤ cs.length ∧ s.2.2.length = s.2.1.length ∧ (∀ r ∈ s.2.2, r.length = 3) ∧ DL CaseD M3 s.2.1 s.2.2 ∧ s.2.1.Sublist (cs.take s.1))
    (fun s => cs.length - s.1) (0, [], []) ⟨Nat.zero_le _, rfl, by simp, trivial, by simp⟩ ?_ ?_
  · exact Wk.nil 12 46 3 rfl (Wk.mk' id (by repeat' constructor) (by repeat' constructor) (injOK_id _) rfl rfl rfl)
  rintro ⟨i, ds, rows⟩ ⟨hi, hrl, hr3, hdl, hsub⟩ m
  have hi : i ≤ cs.length := hi
  have hrl : rows.length = ds.length := hrl
  have hsub : ds.Sublist (cs.take i) := hsub
  repeat (first | refine VIf.tt ?_ | refine VIf.ff ?_)
  refine VIf.mk (fun hlt => ?_) (fun hge => ?_)
  · have hlt : i < cs.length := lt_of_dec hlt
    obtain ⟨ad', a1, b1, s1, ead, ha, hb1, hs, hc1⟩ := hrd M3 m3 i hlt
    obtain ⟨x1, x2, rfl, _⟩ := ha.get
    obtain ⟨y1, y2, rfl, _⟩ := hb1.get
    obtain ⟨u1, u2, rfl, hzm, hsr⟩ := hs.get
    repeat (first | refine VIf.tt ?_ | refine VIf.ff ?_)
    refine VIdx.mk ad' i ead rfl hlt ?_
    repeat (first | refine VIf.tt ?_ | refine VIf.ff ?_)
    refine VReads.mk [.slice x1 (gc cs i).sn.length x2, .slice y1 (gc cs i).cl.length y2, .slice u1 (gc cs i).st.length u2] rfl hc1 ?_
    have hcd : CaseD M3 (gc cs i) [.slice x1 (gc cs i).sn.length x2, .slice y1 (gc cs i).cl.length y2, .slice u1 (gc cs i).st.length u2] := ⟨_, _, _, rfl, ha, hb1, hs⟩
    have htk : cs.take (i + 1) = cs.take i ++ [gc cs i] := by
      rw [List.take_add_one]
      simp [gc, hlt]
    have hrl2 : rows.length ≤ 200 := by
      have := hsub.length_le
      rw [List.length_take] at this; omega
    repeat (first | refine VIf.tt ?_ | refine VIf.ff ?_)
    refine VDiv.mk (by decide) ?_
    refine VSh.mk (Int.tmod_nonneg _ (by omega)) ?_
    repeat (first | refine VIf.tt ?_ | refine VIf.ff ?_)
    refine VIf.mk (fun _ => ?_) (fun _ => ?_)
    · repeat (first | refine VIf.tt ?_ | refine VIf.ff ?_)
      refine VFact.mk (by simp only; omega) ?_
      repeat (first | refine VIf.tt ?_ | refine VIf.ff ?_)
      refine VArith.ok (by first | omega | (simp only; omega)) (by first | omega | (simp only; omega)) ?_
      refine ⟨(i + 1, ds ++ [gc cs i], rows ++ [[.slice x1 (gc cs i).sn.length x2, .slice y1 (gc cs i).cl.length y2, .slice u1 (gc cs i).st.length u2]]), ⟨hlt, by simp [hrl], ?_, DL.snoc hcd hdl, ?_⟩, (by first | omega | (simp only; omega)), ?_⟩
      · intro r hr
        rcases List.mem_append.1 hr with hr | hr
        · exact hr3 r hr
        · simp at hr; subst hr; rfl
      · show (ds ++ [gc cs i]).Sublist (cs.take (i + 1))
        rw [htk]; exact hsub.append (List.Sublist.refl _)
      · exact Wk.mk' (fun k => if k = 0 then 3 else k) (by repeat' constructor) ⟨⟨rfl, ⟨rfl, rfl, by simp, by simp⟩⟩, trivial⟩ (by simp [injOK]) rfl rfl rfl
    · repeat (first | refine VIf.tt ?_ | refine VIf.ff ?_)
      refine VArith.ok (by first | omega | (simp only; omega)) (by first | omega | (simp only; omega)) ?_
      refine ⟨(i + 1, ds, rows), ⟨hlt, hrl, hr3, hdl, ?_⟩, (by first | omega | (simp only; omega)), (Wk.mk' id (by repeat' constructor) (by repeat' constructor) (injOK_id _) rfl rfl rfl)⟩
      show ds.Sublist (cs.take (i + 1))
      rw [htk]; exact hsub.trans (List.sublist_append_left _ _)
  · have : i = cs.length := by have := ge_of_dec hge; omega
    subst this
    rw [List.take_length] at hsub
    repeat (first | refine VIf.tt ?_ | refine VIf.ff ?_)
    refine VFz.mk fun xs Bs M4 hM4 hxs => ?_
    have hxs : SlAt M4 3 xs rows.length rows.flatten := hxs
    obtain ⟨as7, cs7, rfl⟩ := SlAt.shape hxs
    have hcm : CasV M4 (.slice as7 rows.length cs7) ds := Arr.of rows hr3 (by rw [← hrl]; exact hxs) (DL.le CaseD.le hM4 hdl)
    have m4 := m3.trans hM4
    obtain ⟨k, hk0⟩ : ∃ k : Int, (if ds = [] then 1 else 0) = k := ⟨_, rfl⟩
    have hrd' : raiseB ds p = (k, 0) := by
      rw [raiseB, cases_sub hcs hsub, hV, kind_sub hleft hsub, hk0]; rfl
    have hempty : (k == 0) = false → ((rows.length : Int) == 0) = true := fun h => by
      by_cases e : ds = []
      · rw [e] at hrl; simp [hrl]
      · rw [if_neg e] at hk0; subst hk0; cases h
    repeat (first | refine VIf.tt ?_ | refine VIf.ff ?_)
    refine VFn.mk _ (Raise_is hcm (h1.le m4) g1 hrd') ?_
    rintro rs M5 hM5 rfl
    have m5 := m4.trans hM5
    have hp80 : p.length ≤ 80 ∧ q.length ≤ 80 := by
      simp only [Bool.not_eq_false', decide_eq_true_eq] at hp8 hq8
      exact ⟨hp8, hq8⟩
    repeat (first | refine VIf.tt ?_ | refine VIf.ff ?_)
    refine VSl.mk p.length (cellsP p) (h1.le m5) ?_
    repeat (first | refine VIf.tt ?_ | refine VIf.ff ?_)
    refine VFact.mk (by simp only; omega) ?_
    repeat (first | refine VIf.tt ?_ | refine VIf.ff ?_)
    refine VSl.mk q.length (cellsP q) (h2.le m5) ?_
    repeat (first | refine VIf.tt ?_ | refine VIf.ff ?_)
    refine VFact.mk (by simp only; omega) ?_
    repeat (first | refine VIf.tt ?_ | refine VIf.ff ?_)
    refine VFz.mk fun x B2 M6 hM6 hx => ?_
    have m6 := m5.trans hM6
    have hx : Pts M6 x (p ++ q) := by
      have e1 : cellsP (p ++ q) = ([] ++ cellsP p) ++ cellsP q := by simp [cellsP]
      unfold Pts
      rw [e1, show (p ++ q).length = 0 + p.length + q.length by simp]
      exact hx
    have gpq : i64P (p ++ q) := i64P_of fun y hy => by
      rcases List.mem_append.1 hy with hy | hy
      · obtain ⟨i, hi, rfl⟩ := mem_gp hy
        exact g1 i hi
      · obtain ⟨i, hi, rfl⟩ := mem_gp hy
        exact g2 i hi
    obtain ⟨⟨w, ew⟩, hrw⟩ : ∃ r, hullB (p ++ q) = r := ⟨_, rfl⟩
    repeat (first | refine VIf.tt ?_ | refine VIf.ff ?_)
    refine VFn.mk _ (Hull_is hx gpq hrw) ?_
    rintro rs M7 hM7 ⟨u, rfl, hu⟩
    have m7 := m6.trans hM7
    obtain ⟨ud, uc, rfl⟩ := hu.shape
    repeat (first | refine VIf.tt ?_ | refine VIf.ff ?_)
    refine VIf.mk (fun _ => ?_) (fun hew => ?_)
    · repeat (first | refine VIf.tt ?_ | refine VIf.ff ?_)
      repeat (first | refine VIf.tt ?_ | refine VIf.ff ?_)
      refine VIf.mk (fun _ => ?_) (fun h => ?_)
      · repeat (first | refine VIf.tt ?_ | refine VIf.ff ?_)
        exact VFact.mk rfl trivial
      · repeat (first | refine VIf.tt ?_ | refine VIf.ff ?_)
        exact VFact.mk (by rw [hempty h]) trivial
    obtain rfl : ew = 0 := bne_eq_false_iff_eq.1 hew
    rcases hull_split hrw with ⟨_, hh, hVw, _, _, _⟩ | ⟨he', _⟩
    rotate_left
    · exact absurd rfl he'
    have hkw : raiseB cs w = (0, 0) := by
      have hw : leftB cs w = false := left_wide hleft hV (List.all_eq_true.2 fun y hy => hh.has (List.mem_append_left _ hy))
      rw [raiseB, hcs, hVw, kindB, if_neg hne, hw]; rfl
    repeat (first | refine VIf.tt ?_ | refine VIf.ff ?_)
    refine VFn.mk _ (Raise_is (h0.le m7) hu (i64P_valid hVw) hkw) ?_
    rintro rs M8 hM8 rfl
    repeat (first | refine VIf.tt ?_ | refine VIf.ff ?_)
    repeat (first | refine VIf.tt ?_ | refine VIf.ff ?_)
    refine VIf.mk (fun _ => ?_) (fun h => ?_)
    · repeat (first | refine VIf.tt ?_ | refine VIf.ff ?_)
      repeat (first | refine VIf.tt ?_ | refine VIf.ff ?_)
      exact VFact.mk rfl trivial
    · repeat (first | refine VIf.tt ?_ | refine VIf.ff ?_)
      refine VIf.mk (fun _ => ?_) (fun h' => ?_)
      · repeat (first | refine VIf.tt ?_ | refine VIf.ff ?_)
        repeat (first | refine VIf.tt ?_ | refine VIf.ff ?_)
        exact VFact.mk rfl trivial
      · rw [hempty h] at h'; cases h'
end Go.Proofs.Ytaobaeiohjgdcaa.alarmFewer

namespace Go.Proofs.Ytaobaeiohjgdcaa.alarmFewer
open Go Go.V Go.RowKit Go.ChangeShapes Go.WideShapes Go.ChangeAt
set_option linter.unusedVariables false
set_option maxRecDepth 100000 in
theorem lifted (os : Os) (started : os.Started) (H : Type) (enc : TypeId × Value → H) :
    ReturnsInHanded {} Try.checked os 13 .any (Rows.alarmFewerSpec.pre6 enc Try.prog Try.f13 Rows.alarmFewerRow.domain false) (Rows.alarmFewerSpec.post enc Try.prog Try.f13 false true false false) := by
  refine returnsInHanded_of_change (C := Try.checked) own started (by kernel_rfl) Try.func13
    (ChangeSpec.witness6 (enc := enc) (C := Try.checked) false ⟨#[], #[.slice none 0 0, .slice none 0 0, .slice none 0 0, .int .u64 0], []⟩ 8 (by kernel_rfl) (by kernel_rfl) (by kernel_rfl) (by kernel_rfl)) ?_
  intro W base args ds gs before hval0 hW hcnd _
  have hval : ∀ (j : Nat) t v, Try.f13.params[j]? = some t → args[j]? = some v → Value.okWide Try.prog W .any base t v := hval0
  have hW' := hW
  obtain ⟨p, q, hA0, hV, rfl, hfz, hnd⟩ := hW
  have hA : DataW.TrodAll enc Try.prog W 0 (fun _ => true) true Try.f13.params.toList args.toList ds p := hA0
  have hA1 := hA
  rw [Try.params13] at hA hval
  obtain ⟨v0, vs0, d0, ds0, p0, q0, hargs, rfl, rfl, h0, r0⟩ := trodAll_cons hA
  obtain ⟨v1, vs1, d1, ds1, p1, q1, rfl, rfl, rfl, h1, r1⟩ := trodAll_cons r0
  obtain ⟨v2, vs2, d2, ds2, p2, q2, rfl, rfl, rfl, h2, r2⟩ := trodAll_cons r1
  obtain ⟨v3, vs3, d3, ds3, p3, q3, rfl, rfl, rfl, h3, r3⟩ := trodAll_cons r2
  obtain ⟨rfl, rfl, rfl⟩ := trodAll_nil r3
  obtain rfl : args = #[v0, v1, v2, v3] := by cases args; simp_all
  obtain ⟨rfl, rfl⟩ := trodVars_none hV
  obtain ⟨a0, len0, cap0, rfl⟩ := okWide_slice Try.underlying22 (hval 0 22 v0 rfl rfl)
  obtain ⟨fuel0, t0⟩ := h0
  obtain ⟨l0, ⟨u0, e0, g0⟩, _⟩ := opens22 _ _ _ t0
  simp [Value.cells] at e0
  subst e0
  obtain ⟨a1, len1, cap1, rfl⟩ := okWide_slice Try.underlying24 (hval 1 24 v1 rfl rfl)
  obtain ⟨fuel1, t1⟩ := h1
  obtain ⟨l1, ⟨u1, e1, g1, k1⟩, _⟩ := opens24 _ _ _ t1
  simp [Value.cells] at e1
  subst e1
  obtain ⟨a2, len2, cap2, rfl⟩ := okWide_slice Try.underlying24 (hval 2 24 v2 rfl rfl)
  obtain ⟨fuel2, t2⟩ := h2
  obtain ⟨l2, ⟨u2, e2, g2, k2⟩, _⟩ := opens24 _ _ _ t2
  simp [Value.cells] at e2
  subst e2
  obtain ⟨l3, rfl, rfl, rfl, _⟩ := open_int Try.underlying62 (hval 3 62 v3 rfl rfl) h3
  simp only [List.append_nil] at hW' hA1
  refine ((law_fn (.slice a0 len0 cap0) (.slice a1 len1 cap1) (.slice a2 len2 cap2) l0 l1 l2 l3 (memOf W) g0 g1 k1 g2 k2).2 W (memOf_ok W)).mono fun e W' ⟨rs, M', he, hb, _, _, _, hr⟩ => ?_
  subst he hr
  exact ⟨_, rfl, post_of_below laid (by rw [Try.params13]; exact of_decide_eq_true (by kernel_rfl)) rfl hW' hA1
    (fun _ _ _ => (trodAll_cons_mk (shut_bool Try.underlying4 _) trodAll_mk0)) rfl rfl hb (ok_one (by kernel_rfl) rfl (okWide_bool_mk Try.underlying4 _))⟩

/-- The statement. -/
theorem proved : Rows.AlarmFewerSaid :=
  OpenClaim.holds_of_wide 13 Try.f13 rfl rfl rfl rfl rfl rfl rfl ⟨rfl, rfl, rfl, rfl, rfl⟩ rfl rfl rfl rfl rfl (by kernel_rfl) Try.func13 (by kernel_rfl)
    (of_decide_eq_true (by kernel_rfl)) (by unfold Func.isWrapper; first | (rw [if_pos (by decide +kernel)]; kernel_rfl) | (rw [if_neg (by decide +kernel)]; exact ⟨rfl, rfl⟩))
    (fun os started H enc _ => lifted os started H enc)
#print axioms proved
end Go.Proofs.Ytaobaeiohjgdcaa.alarmFewer
