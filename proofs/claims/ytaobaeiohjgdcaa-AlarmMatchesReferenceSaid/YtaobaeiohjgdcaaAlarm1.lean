/- AlarmMatchesReference: for all cases, beliefs and polygons both functions of package alarm return what the reference returns. No conditions beyond the statement's own. -/
import Derived.Test.YtaobaeiohjgdcaaE2
namespace Go.Proofs.Ytaobaeiohjgdcaa.alarmMatchesReference
open Go Go.V Go.RowKit Go.ChangeShapes Go.WideShapes Go.ChangeAt
set_option maxHeartbeats 4000000 in
theorem law_fn (v0 v1 v2 : Value) (cs : List CaseS) (bs : List BelS) (q : List Pt) (M : Mem) (h0 : CasV M v0 cs) (h1 : BelsV M v1 bs) (h2 : Pts M v2 q) (h64 : i64P q) : V.Fn Try.prog 3 [v0, v1, v2] M fun rs _ => rs = [.bool true] := by
  refine Fn.of_vc cxOK Try.func3 rfl rfl rfl ?_
  repeat (first | refine VIf.tt ?_ | refine VIf.ff ?_)
  refine VFn.mk _ (head_fn M) ?_
  rintro rs M1 hM1 rfl
  repeat (first | refine VIf.tt ?_ | refine VIf.ff ?_)
  refine VFn.mk _ (Few22_fn v0 cs M1 (h0.le hM1)) ?_
  rintro rs M2 hM2 ⟨b1, rfl, _⟩
  repeat (first | refine VIf.tt ?_ | refine VIf.ff ?_)
  refine VIf.mk (fun _ => ?_) (fun _ => ?_)
  · repeat (first | refine VIf.tt ?_ | refine VIf.ff ?_)
    exact VFact.mk rfl trivial
  repeat (first | refine VIf.tt ?_ | refine VIf.ff ?_)
  refine VFn.mk _ (Few23_fn v1 bs M2 (h1.le (hM1.trans hM2))) ?_
  rintro rs M3 hM3 ⟨b2, rfl⟩
  repeat (first | refine VIf.tt ?_ | refine VIf.ff ?_)
  refine VIf.mk (fun _ => ?_) (fun _ => ?_)
  · repeat (first | refine VIf.tt ?_ | refine VIf.ff ?_)
    exact VFact.mk rfl trivial
  repeat (first | refine VIf.tt ?_ | refine VIf.ff ?_)
  refine VFn.p (Few03_fn v2 q M3 (h2.le ((hM1.trans hM2).trans hM3))) ?_
  repeat (first | refine VIf.tt ?_ | refine VIf.ff ?_)
  refine VIf.mk (fun _ => ?_) (fun _ => ?_)
  · repeat (first | refine VIf.tt ?_ | refine VIf.ff ?_)
    exact VFact.mk rfl trivial
  have m3 : M.le M3 := (hM1.trans hM2).trans hM3
  repeat (first | refine VIf.tt ?_ | refine VIf.ff ?_)
  refine VFn.mk _ (Raise_fn v0 v2 cs q M3 (h0.le m3) (h2.le m3) h64) ?_
  rintro rs M4 hM4 rfl
  have m4 := m3.trans hM4
  repeat (first | refine VIf.tt ?_ | refine VIf.ff ?_)
  refine VFn.mk _ (RaiseR_fn v0 v2 cs q M4 (h0.le m4) (h2.le m4) h64) ?_
  rintro rs M5 hM5 rfl
  have m5 := m4.trans hM5
  repeat (first | refine VIf.tt ?_ | refine VIf.ff ?_)
  refine VFn.mk _ (First_fn v1 v2 bs q M5 (h1.le m5) (h2.le m5) h64) ?_
  rintro rs M6 hM6 rfl
  have m6 := m5.trans hM6
  repeat (first | refine VIf.tt ?_ | refine VIf.ff ?_)
  refine VFn.mk _ (FirstR_fn v1 v2 bs q M6 (h1.le m6) (h2.le m6) h64) ?_
  rintro rs M7 hM7 rfl
  generalize raiseB cs q = r
  generalize firstB bs q = f
  obtain ⟨r1, r2⟩ := r
  obtain ⟨f1, f2, f3⟩ := f
  have no : ∀ {x : Int} {K : Prop}, (x == x) = false → K := fun {x} _ h => by simp at h
  repeat (first | refine VIf.tt ?_ | refine VIf.ff ?_)
  refine VIf.mk (fun _ => ?_) no
  repeat (first | refine VIf.tt ?_ | refine VIf.ff ?_)
  refine VIf.mk (fun _ => ?_) no
  repeat (first | refine VIf.tt ?_ | refine VIf.ff ?_)
  refine VIf.mk (fun _ => ?_) no
  repeat (first | refine VIf.tt ?_ | refine VIf.ff ?_)
  refine VIf.mk (fun _ => ?_) no
  repeat (first | refine VIf.tt ?_ | refine VIf.ff ?_)
  refine VFact.mk ?_ trivial
  show [Value.bool (f3 == f3)] = _
  simp
set_option linter.unusedVariables false
set_option maxRecDepth 100000 in
theorem lifted (os : Os) (started : os.Started) (H : Type) (enc : TypeId × Value → H) :
    ReturnsInHanded {} Try.checked os 3 .any (Rows.alarmMatchesReferenceSpec.pre6 enc Try.prog Try.f3 Rows.alarmMatchesReferenceRow.domain false) (Rows.alarmMatchesReferenceSpec.post enc Try.prog Try.f3 false true false false) := by
  refine returnsInHanded_of_change (C := Try.checked) own started (by kernel_rfl) Try.func3
    (ChangeSpec.witness6 (enc := enc) (C := Try.checked) false ⟨#[], #[.slice none 0 0, .slice none 0 0, .slice none 0 0], []⟩ 8 (by kernel_rfl) (by kernel_rfl) (by kernel_rfl) (by kernel_rfl)) ?_
  intro W base args ds gs before hval0 hW hcnd _
  have hval : ∀ (j : Nat) t v, Try.f3.params[j]? = some t → args[j]? = some v → Value.okWide Try.prog W .any base t v := hval0
  have hW' := hW
  obtain ⟨p, q, hA0, hV, rfl, hfz, hnd⟩ := hW
  have hA : DataW.TrodAll enc Try.prog W 0 (fun _ => true) true Try.f3.params.toList args.toList ds p := hA0
  have hA1 := hA
  rw [Try.params3] at hA hval
  obtain ⟨v0, vs0, d0, ds0, p0, q0, hargs, rfl, rfl, h0, r0⟩ := trodAll_cons hA
  obtain ⟨v1, vs1, d1, ds1, p1, q1, rfl, rfl, rfl, h1, r1⟩ := trodAll_cons r0
  obtain ⟨v2, vs2, d2, ds2, p2, q2, rfl, rfl, rfl, h2, r2⟩ := trodAll_cons r1
  obtain ⟨rfl, rfl, rfl⟩ := trodAll_nil r2
  obtain rfl : args = #[v0, v1, v2] := by cases args; simp_all
  obtain ⟨rfl, rfl⟩ := trodVars_none hV
  obtain ⟨a0, len0, cap0, rfl⟩ := okWide_slice Try.underlying22 (hval 0 22 v0 rfl rfl)
  obtain ⟨fuel0, t0⟩ := h0
  obtain ⟨l0, ⟨u0, e0, g0⟩, _⟩ := opens22 _ _ _ t0
  simp [Value.cells] at e0
  subst e0
  obtain ⟨a1, len1, cap1, rfl⟩ := okWide_slice Try.underlying23 (hval 1 23 v1 rfl rfl)
  obtain ⟨fuel1, t1⟩ := h1
  obtain ⟨l1, ⟨u1, e1, g1⟩, _⟩ := opens23 _ _ _ t1
  simp [Value.cells] at e1
  subst e1
  obtain ⟨a2, len2, cap2, rfl⟩ := okWide_slice Try.underlying24 (hval 2 24 v2 rfl rfl)
  obtain ⟨fuel2, t2⟩ := h2
  obtain ⟨l2, ⟨u2, e2, g2, k2⟩, _⟩ := opens24 _ _ _ t2
  simp [Value.cells] at e2
  subst e2
  simp only [List.append_nil] at hW' hA1
  refine ((law_fn (.slice a0 len0 cap0) (.slice a1 len1 cap1) (.slice a2 len2 cap2) l0 l1 l2 (memOf W) g0 g1 g2 k2).2 W (memOf_ok W)).mono fun e W' ⟨rs, M', he, hb, _, _, _, hr⟩ => ?_
  subst he hr
  exact ⟨_, rfl, post_of_below laid (by rw [Try.params3]; exact of_decide_eq_true (by kernel_rfl)) rfl hW' hA1
    (fun _ _ _ => (trodAll_cons_mk (shut_bool Try.underlying4 _) trodAll_mk0)) rfl rfl hb (ok_one (by kernel_rfl) rfl (okWide_bool_mk Try.underlying4 _))⟩

/-- The statement. -/
theorem proved : Rows.AlarmMatchesReferenceSaid :=
  OpenClaim.holds_of_wide 3 Try.f3 rfl rfl rfl rfl rfl rfl rfl ⟨rfl, rfl, rfl, rfl, rfl⟩ rfl rfl rfl rfl rfl (by kernel_rfl) Try.func3 (by kernel_rfl)
    (of_decide_eq_true (by kernel_rfl)) (by unfold Func.isWrapper; first | (rw [if_pos (by decide +kernel)]; kernel_rfl) | (rw [if_neg (by decide +kernel)]; exact ⟨rfl, rfl⟩))
    (fun os started H enc _ => lifted os started H enc)
#print axioms proved
end Go.Proofs.Ytaobaeiohjgdcaa.alarmMatchesReference
