/- Contracts: region.Has. -/
import Derived.Test.YtaobaeiohjgdcaaC17
namespace Go.Proofs.Ytaobaeiohjgdcaa
open Go Go.V Go.RowKit
theorem regPlace_fn (x y : Int) (M : Mem) : FnP Try.prog 59 [pt x y] M [.bool (isCb x && isCb y)] := by
  refine Fn.of_vc cxOK Try.func59 rfl rfl rfl ?_
  repeat' (first | refine VIf.tt ?_ | refine VIf.ff ?_ | refine VIf.mk (fun _ => ?_) (fun _ => ?_) | refine VFact.mk ?_ trivial)
  all_goals (refine ⟨bool1 ?_, rfl⟩; simp only [isCb, Bool.and_eq_true, decide_eq_true_eq, decide_eq_false_iff_not, Bool.false_eq_true, false_iff] at *; omega)
theorem regHas1_fn (w : Value) (ps : List Pt) (B : Nat) (x y : Int) (M : Mem) (hB : M B = some (.cells #[.int .i64 x, .int .i64 y] 39 (0, 0))) (hw : Pts M w ps) (h64 : i64P ps) (hV : validB ps = true) (hP : placeB (x, y) = true) :
    V.Fn Try.prog 60 [w, .pointer (some ⟨B, 0, none⟩)] M fun rs _ => rs = [.bool (hasB ps (x, y))] := by
  obtain ⟨ad, c, rfl⟩ := hw.shape
  have hxy : isC x ∧ isC y := by
    simp only [placeB, Bool.and_eq_true] at hP
    exact ⟨isCb_iff.1 hP.1, isCb_iff.1 hP.2⟩
  refine Fn.of_vc cxOK Try.func60 rfl rfl rfl ?_
  repeat (first | refine VIf.tt ?_ | refine VIf.ff ?_)
  refine VReads.mk [.int .i64 x, .int .i64 y] rfl (fun j v hj => cellAt hB j (by simpa using hj)) ?_
  repeat (first | refine VIf.tt ?_ | refine VIf.ff ?_)
  refine VFn.mk _ (Has_fn _ ps x y M hw h64 (isC_i64 hxy.1) (isC_i64 hxy.2)) ?_
  rintro rs M1 hM1 rfl
  rw [hV, hP]
  repeat (first | refine VIf.tt ?_ | refine VIf.ff ?_)
  exact VFact.mk rfl trivial
theorem regHas_fn (v : Value) (r : List (List Pt)) (x y : Int) (M : Mem) (hv : RegV M v r) : V.Fn Try.prog 27 [v, pt x y] M fun rs _ => rs = if (regionB r && placeB (x, y)) = true then [.bool (r.any fun p => hasB p (x, y)), .int .i64 0] else [.bool false, .int .i64 1] := by
  obtain ⟨ad, c, rfl⟩ := hv.shape
  refine Fn.of_vc cxOK Try.func27 rfl rfl rfl ?_
  repeat (first | refine VIf.tt ?_ | refine VIf.ff ?_)
  refine VFn.mk _ (regValid_fn _ r M hv) ?_
  rintro rs M1 hM1 rfl
  repeat (first | refine VIf.tt ?_ | refine VIf.ff ?_)
  refine VIf.mk (fun hV => ?_) (fun hV => ?_)
  · repeat (first | refine VIf.tt ?_ | refine VIf.ff ?_)
    refine VFact.mk ?_ trivial
    rw [bn1 hV]; rfl
  repeat (first | refine VIf.tt ?_ | refine VIf.ff ?_)
  refine VFn.p (regPlace_fn _ _ _) ?_
  repeat (first | refine VIf.tt ?_ | refine VIf.ff ?_)
  refine VIf.mk (fun hP => ?_) (fun hP => ?_)
  · repeat (first | refine VIf.tt ?_ | refine VIf.ff ?_)
    refine VFact.mk ?_ trivial
    rw [show placeB (x, y) = false from bn1 hP, Bool.and_false]; rfl
  have hV := bn2 hV
  have hP : placeB (x, y) = true := bn2 hP
  rw [hV, hP]
  repeat (first | refine VIf.tt ?_ | refine VIf.ff ?_)
  refine VOwn.frz ?_
  repeat (first | refine VIf.tt ?_ | refine VIf.ff ?_)
  refine VFzB.mk fun u B M2 hM2 hB => ?_
  have m2 : M.le M2 := hM1.trans hM2
  have hall : r.all validB = true := by
    simp only [regionB, Bool.and_eq_true] at hV
    exact hV.2
  repeat (first | refine VIf.tt ?_ | refine VIf.ff ?_)
  refine VFn.mk _ (ContainsR1_fn _ r _ (.pointer (some ⟨B, 0, none⟩)) (fun p => hasB p (x, y)) M2 (hv.le m2) fun i hi M' hM' w hw h64 => regHas1_fn w _ B x y M' (hM' _ _ hB) hw h64 (all_at [] hall hi) hP) ?_
  rintro rs M3 hM3 rfl
  repeat (first | refine VIf.tt ?_ | refine VIf.ff ?_)
  exact VFact.mk rfl trivial
theorem Has_is {v : Value} {ps : List Pt} {x y : Int} {M : Mem} {b : Bool} (hv : Pts M v ps) (hi64 : i64P ps) (hx : i64r x) (hy : i64r y) (hV : validB ps = true) (hP : placeB (x, y) = true) (hb : hasB ps (x, y) = b) : V.Fn Try.prog 26 [v, pt x y] M fun rs _ => rs = [.bool b, .int .i64 0] :=
  (Has_fn v ps x y M hv hi64 hx hy).mono fun rs M' _ h => by rw [h, hV, hP, hb]; rfl
theorem regHas_is {v : Value} {r : List (List Pt)} {x y : Int} {M : Mem} {b : Bool} (hv : RegV M v r) (hV : regionB r = true) (hP : placeB (x, y) = true) (hb : (r.any fun p => hasB p (x, y)) = b) : V.Fn Try.prog 27 [v, pt x y] M fun rs _ => rs = [.bool b, .int .i64 0] :=
  (regHas_fn v r x y M hv).mono fun rs M' _ h => by rw [h, hV, hP, hb]; rfl
theorem Raise_is {v w : Value} {cs : List CaseS} {q : List Pt} {M : Mem} {r : Int × Int} (hv : CasV M v cs) (hw : Pts M w q) (hq64 : i64P q) (hr : raiseB cs q = r) : V.Fn Try.prog 19 [v, w] M fun rs _ => rs = raiseV r :=
  (Raise_fn v w cs q M hv hw hq64).mono fun rs M' _ h => by rw [h, hr]
theorem First_is {v w : Value} {bs : List BelS} {q : List Pt} {M : Mem} {r : Int × Int × Int} (hv : BelsV M v bs) (hw : Pts M w q) (hq64 : i64P q) (hr : firstB bs q = r) : V.Fn Try.prog 21 [v, w] M fun rs _ => rs = firstV r :=
  (First_fn v w bs q M hv hw hq64).mono fun rs M' _ h => by rw [h, hr]
theorem Valid_is {v : Value} {ps : List Pt} {M : Mem} {b : Bool} (hv : Pts M v ps) (hi64 : i64P ps) (hb : validB ps = b) : V.Fn Try.prog 25 [v] M fun rs _ => rs = [.bool b] :=
  (Valid_fn v ps M hv hi64).mono fun rs M' _ h => by rw [h, hb]
end Go.Proofs.Ytaobaeiohjgdcaa
