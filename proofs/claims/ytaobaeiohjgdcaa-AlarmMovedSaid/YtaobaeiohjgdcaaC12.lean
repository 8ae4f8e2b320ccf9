/- Contracts: lists of cases. -/
import Derived.Test.YtaobaeiohjgdcaaC11
namespace Go.Proofs.Ytaobaeiohjgdcaa
open Go Go.V Go.RowKit
theorem IntsV.one {M : Mem} {v : Value} {l : List Int} (h : IntsV M v l) : v.oneCell' = true := by obtain ⟨ad, c, rfl, _⟩ := h.get; rfl
theorem RegV.one {M : Mem} {v : Value} {l : List (List Pt)} (h : RegV M v l) : v.oneCell' = true := by obtain ⟨ad, c, rfl, _⟩ := h.get; rfl
theorem gc_step {cs : List CaseS} {i : Nat} (h1 : case1 (gc cs i) = true) (h2 : 0 < i → caseC (gc cs (i - 1)) (gc cs i) < 0) : caseV cs i = true := by
  simp only [caseV, h1, Bool.true_and, Bool.or_eq_true, beq_iff_eq, decide_eq_true_eq]
  by_cases e : i = 0
  · exact .inl e
  · exact .inr (h2 (by omega))
theorem casesR_fn (v : Value) (cs : List CaseS) (M : Mem) (hv : CasV M v cs) : FnP Try.prog 24 [v] M [.bool (casesB cs)] := by
  obtain ⟨ad, c, rfl, hm, hrd⟩ := hv.get
  refine Fn.of_vc cxOK Try.func24 rfl rfl rfl ?_
  repeat (first | refine VIf.tt ?_ | refine VIf.ff ?_)
  refine VCode.loop cxOK Nat (fun i => ⟨[(0, .v (.slice ad cs.length c)), (3, .v (.int .i64 i))], [], 0, M, 68, ⟨fun _ => none, none, fun _ => none⟩⟩)
    (fun i => i ≤ cs.length ∧ ∀ j, j < i → caseV cs j = true) (fun i => cs.length - i) 0 ⟨Nat.zero_le _, fun j hj => by omega⟩ (Wk.mk' id (by repeat' constructor) (by repeat' constructor) (injOK_id _) rfl rfl rfl) ?_
  rintro i ⟨hi, hz⟩ m
  repeat (first | refine VIf.tt ?_ | refine VIf.ff ?_)
  refine VIf.mk (fun hlt => ?_) (fun hge => ?_)
  · have hlt : i < cs.length := lt_of_dec hlt
    obtain ⟨ad', a, b, s, rfl, ha, hb, hs, hc1⟩ := hrd M (Mem.le_refl _) i hlt
    have bad : caseV cs i = false → casesB cs = false := fun h => by simp [casesB, all_false hlt h]
    have bad1 : case1 (gc cs i) = false → casesB cs = false := fun h => bad (by simp [caseV, h])
    repeat (first | refine VIf.tt ?_ | refine VIf.ff ?_)
    refine VIdx.mk ad' i rfl rfl hlt ?_
    repeat (first | refine VIf.tt ?_ | refine VIf.ff ?_)
    refine VRead.mk s (hc1 2 _ rfl) ?_
    repeat (first | refine VIf.tt ?_ | refine VIf.ff ?_)
    refine VFn.p (regValidR_fn s _ M hs) ?_
    repeat (first | refine VIf.tt ?_ | refine VIf.ff ?_)
    refine VIdx.mk ad' i rfl rfl hlt ?_
    repeat (first | refine VIf.tt ?_ | refine VIf.ff ?_)
    refine VRead.mk a (hc1 0 _ rfl) ?_
    repeat (first | refine VIf.tt ?_ | refine VIf.ff ?_)
    refine VFn.p (risingR_fn a _ 1 8 M ha) ?_
    repeat (first | refine VIf.tt ?_ | refine VIf.ff ?_)
    refine VIdx.mk ad' i rfl rfl hlt ?_
    repeat (first | refine VIf.tt ?_ | refine VIf.ff ?_)
    refine VRead.mk b (hc1 1 _ rfl) ?_
    repeat (first | refine VIf.tt ?_ | refine VIf.ff ?_)
    refine VFn.p (risingR_fn b _ 0 3999 M hb) ?_
    repeat (first | refine VIf.tt ?_ | refine VIf.ff ?_)
    refine VIf.mk (fun h1 => ?_) (fun h1 => ?_)
    · repeat (first | refine VIf.tt ?_ | refine VIf.ff ?_)
      refine VFact.mk ⟨?_, rfl⟩ trivial
      rw [bad1 (by simp [case1, bn1 h1])]
    repeat (first | refine VIf.tt ?_ | refine VIf.ff ?_)
    refine VIf.mk (fun h2 => ?_) (fun h2 => ?_)
    · repeat (first | refine VIf.tt ?_ | refine VIf.ff ?_)
      refine VFact.mk ⟨?_, rfl⟩ trivial
      rw [bad1 (by simp [case1, bn1 h2])]
    repeat (first | refine VIf.tt ?_ | refine VIf.ff ?_)
    refine VIf.mk (fun h3 => ?_) (fun h3 => ?_)
    · repeat (first | refine VIf.tt ?_ | refine VIf.ff ?_)
      refine VFact.mk ⟨?_, rfl⟩ trivial
      rw [bad1 (by simp [case1, bn1 h3])]
    obtain ⟨sd, sc, rfl⟩ := hs.shape
    repeat (first | refine VIf.tt ?_ | refine VIf.ff ?_)
    refine VIdx.mk ad' i rfl rfl hlt ?_
    repeat (first | refine VIf.tt ?_ | refine VIf.ff ?_)
    refine VRead.mk _ (hc1 2 _ rfl) ?_
    repeat (first | refine VIf.tt ?_ | refine VIf.ff ?_)
    refine VIf.mk (fun h4 => ?_) (fun h4 => ?_)
    · repeat (first | refine VIf.tt ?_ | refine VIf.ff ?_)
      refine VFact.mk ⟨?_, rfl⟩ trivial
      have h4 : (gc cs i).st = [] := by
        have : ((gc cs i).st.length : Int) = 0 := by simpa using h4
        exact List.eq_nil_of_length_eq_zero (by omega)
      rw [bad1 (by simp [case1, h4])]
    have hc : case1 (gc cs i) = true := by
      have h4 : (gc cs i).st ≠ [] := fun e => by rw [e] at h4; simp at h4
      simp [case1, bn2 h1, bn2 h2, bn2 h3, h4]
    have prev : 0 < i → case1 (gc cs (i - 1)) = true := fun h0 => by
      have := hz (i - 1) (by omega)
      simp only [caseV, Bool.and_eq_true] at this
      exact this.1
    repeat (first | refine VIf.tt ?_ | refine VIf.ff ?_)
    refine VDraw.go (by kernel_rfl) ?_
    repeat (first | refine VIf.tt ?_ | refine VIf.ff ?_)
    refine VIf.mk (fun h5 => ?_) (fun h5 => ?_)
    · have h5 : 0 < i := by have := of_decide_eq_true h5; omega
      obtain ⟨_, a', b', s', he, ha', hb', hs', hc2⟩ := hrd M (Mem.le_refl _) (i - 1) (by omega)
      cases he
      have hp := prev h5
      simp only [case1, Bool.and_eq_true] at hp
      repeat (first | refine VIf.tt ?_ | refine VIf.ff ?_)
      refine VArith.ok (by first | omega | (simp only; omega)) (by first | omega | (simp only; omega)) ?_
      repeat (first | refine VIf.tt ?_ | refine VIf.ff ?_)
      refine VIdx.mk ad' (i - 1) rfl (by omega) (by omega) ?_
      repeat (first | refine VIf.tt ?_ | refine VIf.ff ?_)
      refine VReads.mk [a', b', s'] rfl hc2 ?_
      repeat (first | refine VIf.tt ?_ | refine VIf.ff ?_)
      refine VIdx.mk ad' i rfl rfl hlt ?_
      repeat (first | refine VIf.tt ?_ | refine VIf.ff ?_)
      refine VReads.mk [a, b, .slice sd (gc cs i).st.length sc] rfl hc1 ?_
      repeat (first | refine VIf.tt ?_ | refine VIf.ff ?_)
      refine VFn.p (caseR_fn (gc cs (i - 1)) (gc cs i) _ _ _ _ _ _ M ha' hb' ha hb (small_of hp.1.2 (by omega) (by omega)) (small_of hp.2 (by omega) (by omega)) (small_of (bn2 h2) (by omega) (by omega)) (small_of (bn2 h3) (by omega) (by omega)) hs'.one rfl) ?_
      have hsg := caseR_sgn (gc cs (i - 1)) (gc cs i)
      repeat (first | refine VIf.tt ?_ | refine VIf.ff ?_)
      refine VIf.mk (fun h6 => ?_) (fun h6 => ?_)
      · repeat (first | refine VIf.tt ?_ | refine VIf.ff ?_)
        refine VFact.mk ⟨?_, rfl⟩ trivial
        have h6 := of_decide_eq_true h6
        rw [bad (by simp only [caseV, Bool.and_eq_false_iff, Bool.or_eq_false_iff, beq_eq_false_iff_ne, decide_eq_false_iff_not]; omega)]
      · have h6 := of_decide_eq_false h6
        repeat (first | refine VIf.tt ?_ | refine VIf.ff ?_)
        refine VArith.ok (by first | omega | (simp only; omega)) (by first | omega | (simp only; omega)) ?_
        exact ⟨i + 1, ⟨hlt, stepI hz (gc_step hc fun _ => by omega)⟩, (by first | omega | (simp only; omega)), (Wk.mk' id (by repeat' constructor) (by repeat' constructor) (injOK_id _) rfl rfl rfl)⟩
    · have h5 : i = 0 := by have := of_decide_eq_false h5; omega
      repeat (first | refine VIf.tt ?_ | refine VIf.ff ?_)
      refine VArith.ok (by first | omega | (simp only; omega)) (by first | omega | (simp only; omega)) ?_
      exact ⟨i + 1, ⟨hlt, stepI hz (gc_step hc fun _ => by omega)⟩, (by first | omega | (simp only; omega)), (Wk.mk' id (by repeat' constructor) (by repeat' constructor) (injOK_id _) rfl rfl rfl)⟩
  · have : i = cs.length := by have := ge_of_dec hge; omega
    subst this
    repeat (first | refine VIf.tt ?_ | refine VIf.ff ?_)
    refine VFact.mk ⟨?_, rfl⟩ trivial
    rw [casesB, all_true hz, Bool.and_true]
    refine bool1 ?_
    simp only [decide_eq_true_eq]; omega
theorem casesC_fn (v : Value) (cs : List CaseS) (M : Mem) (hv : CasV M v cs) : V.Fn Try.prog 47 [v] M fun rs _ => rs = [.bool (casesB cs)] := by
  obtain ⟨ad, c, rfl, hm, hrd⟩ := hv.get
  refine Fn.of_vc cxOK Try.func47 rfl rfl rfl ?_
  repeat (first | refine VIf.tt ?_ | refine VIf.ff ?_)
  refine VIf.mk (fun hb => ?_) (fun hb => ?_)
  · repeat (first | refine VIf.tt ?_ | refine VIf.ff ?_)
    refine VFact.mk ?_ trivial
    have hb : ¬ cs.length ≤ 200 := by have := of_decide_eq_true hb; omega
    simp [casesB, hb]
  have hb : cs.length ≤ 200 := by have := of_decide_eq_false hb; omega
  repeat (first | refine VIf.tt ?_ | refine VIf.ff ?_)
  refine VCode.loop cxOK (Nat × Mem) (fun s => ⟨[(0, .v (.slice ad cs.length c)), (8, .v (.slice ad cs.length c)), (9, .v (.int .i64 cs.length)), (10, .v (.int .i64 s.1))], [], 0, s.2, 50, ⟨fun _ => none, none, fun _ => none⟩⟩)
    (fun s => M.le s.2 ∧ s.1 ≤ cs.length ∧ ∀ j, j < s.1 → caseV cs j = true) (fun s => cs.length - s.1) (0, M) ⟨Mem.le_refl _, Nat.zero_le _, fun j hj => by simp at hj⟩ (Wk.mk' id (by repeat' constructor) (by repeat' constructor) (injOK_id _) rfl rfl rfl) ?_
  rintro ⟨i, M1⟩ ⟨hM1, hi, hz⟩ m
  have hM1 : M.le M1 := hM1
  have hi : i ≤ cs.length := hi
  have hz : ∀ j, j < i → caseV cs j = true := hz
  repeat (first | refine VIf.tt ?_ | refine VIf.ff ?_)
  refine VIf.mk (fun hlt => ?_) (fun hge => ?_)
  · have hlt : i < cs.length := lt_of_dec hlt
    obtain ⟨ad', a, b, s, rfl, ha, hb', hs, hc1⟩ := hrd M1 hM1 i hlt
    have bad : caseV cs i = false → casesB cs = false := fun h => by simp [casesB, all_false hlt h]
    have bad1 : case1 (gc cs i) = false → casesB cs = false := fun h => bad (by simp [caseV, h])
    obtain ⟨sd, sc, rfl⟩ := hs.shape
    obtain ⟨sa, sca, rfl, _⟩ := ha.get
    obtain ⟨sb, scb, rfl, _⟩ := hb'.get
    repeat (first | refine VIf.tt ?_ | refine VIf.ff ?_)
    refine VIdx.mk ad' i rfl rfl hlt ?_
    repeat (first | refine VIf.tt ?_ | refine VIf.ff ?_)
    refine VReads.mk [.slice sa (gc cs i).sn.length sca, .slice sb (gc cs i).cl.length scb, .slice sd (gc cs i).st.length sc] rfl hc1 ?_
    repeat (first | refine VIf.tt ?_ | refine VIf.ff ?_)
    refine VIf.mk (fun h4 => ?_) (fun h4 => ?_)
    · repeat (first | refine VIf.tt ?_ | refine VIf.ff ?_)
      refine VFact.mk ?_ trivial
      have h4 : (gc cs i).st = [] := by
        have : ((gc cs i).st.length : Int) = 0 := by simpa using h4
        exact List.eq_nil_of_length_eq_zero (by omega)
      rw [bad1 (by simp [case1, h4])]
    repeat (first | refine VIf.tt ?_ | refine VIf.ff ?_)
    refine VFn.mk _ (regValid_fn _ _ M1 hs) ?_
    rintro rs M2 hM2 rfl
    repeat (first | refine VIf.tt ?_ | refine VIf.ff ?_)
    refine VIf.mk (fun h1 => ?_) (fun h1 => ?_)
    · repeat (first | refine VIf.tt ?_ | refine VIf.ff ?_)
      refine VFact.mk ?_ trivial
      rw [bad1 (by simp [case1, bn1 h1])]
    repeat (first | refine VIf.tt ?_ | refine VIf.ff ?_)
    refine VFn.p (rising_fn _ _ 1 8 M2 (ha.le hM2)) ?_
    repeat (first | refine VIf.tt ?_ | refine VIf.ff ?_)
    refine VIf.mk (fun h2 => ?_) (fun h2 => ?_)
    · repeat (first | refine VIf.tt ?_ | refine VIf.ff ?_)
      refine VFact.mk ?_ trivial
      rw [bad1 (by simp [case1, bn1 h2])]
    repeat (first | refine VIf.tt ?_ | refine VIf.ff ?_)
    refine VFn.p (rising_fn _ _ 0 3999 M2 (hb'.le hM2)) ?_
    repeat (first | refine VIf.tt ?_ | refine VIf.ff ?_)
    refine VIf.mk (fun h3 => ?_) (fun h3 => ?_)
    · repeat (first | refine VIf.tt ?_ | refine VIf.ff ?_)
      refine VFact.mk ?_ trivial
      rw [bad1 (by simp [case1, bn1 h3])]
    have hc : case1 (gc cs i) = true := by
      have h4 : (gc cs i).st ≠ [] := fun e => by rw [e] at h4; simp at h4
      simp [case1, bn2 h1, bn2 h2, bn2 h3, h4]
    repeat (first | refine VIf.tt ?_ | refine VIf.ff ?_)
    refine VDraw.go (by kernel_rfl) ?_
    repeat (first | refine VIf.tt ?_ | refine VIf.ff ?_)
    refine VIf.mk (fun h5 => ?_) (fun h5 => ?_)
    · have h5 : 0 < i := by have := of_decide_eq_true h5; omega
      obtain ⟨_, a', b', s', he, ha', hb'', hs', hc2⟩ := hrd M2 (hM1.trans hM2) (i - 1) (by omega)
      cases he
      repeat (first | refine VIf.tt ?_ | refine VIf.ff ?_)
      refine VArith.ok (by first | omega | (simp only; omega)) (by first | omega | (simp only; omega)) ?_
      repeat (first | refine VIf.tt ?_ | refine VIf.ff ?_)
      refine VIdx.mk ad' (i - 1) rfl (by omega) (by omega) ?_
      repeat (first | refine VIf.tt ?_ | refine VIf.ff ?_)
      refine VReads.mk [a', b', s'] rfl hc2 ?_
      repeat (first | refine VIf.tt ?_ | refine VIf.ff ?_)
      refine VFn.mk _ (caseC_fn (gc cs (i - 1)) (gc cs i) _ _ _ _ _ _ M2 ha' hb'' (ha.le hM2) (hb'.le hM2)) ?_
      rintro rs M3 hM3 rfl
      repeat (first | refine VIf.tt ?_ | refine VIf.ff ?_)
      refine VIf.mk (fun h6 => ?_) (fun h6 => ?_)
      · repeat (first | refine VIf.tt ?_ | refine VIf.ff ?_)
        refine VFact.mk ?_ trivial
        have h6 := of_decide_eq_true h6
        rw [bad (by simp only [caseV, Bool.and_eq_false_iff, Bool.or_eq_false_iff, beq_eq_false_iff_ne, decide_eq_false_iff_not]; omega)]
      · have h6 := of_decide_eq_false h6
        repeat (first | refine VIf.tt ?_ | refine VIf.ff ?_)
        refine VArith.ok (by first | omega | (simp only; omega)) (by first | omega | (simp only; omega)) ?_
        exact ⟨(i + 1, M3), ⟨(hM1.trans hM2).trans hM3, hlt, stepI hz (gc_step hc fun _ => by omega)⟩, (by first | omega | (simp only; omega)), (Wk.mk' id (by repeat' constructor) (by repeat' constructor) (injOK_id _) rfl rfl rfl)⟩
    · have h5 : i = 0 := by have := of_decide_eq_false h5; omega
      repeat (first | refine VIf.tt ?_ | refine VIf.ff ?_)
      refine VArith.ok (by first | omega | (simp only; omega)) (by first | omega | (simp only; omega)) ?_
      exact ⟨(i + 1, M2), ⟨hM1.trans hM2, hlt, stepI hz (gc_step hc fun _ => by omega)⟩, (by first | omega | (simp only; omega)), (Wk.mk' id (by repeat' constructor) (by repeat' constructor) (injOK_id _) rfl rfl rfl)⟩
  · have : i = cs.length := by have := ge_of_dec hge; omega
    subst this
    repeat (first | refine VIf.tt ?_ | refine VIf.ff ?_)
    refine VFact.mk ?_ trivial
    simp [casesB, all_true hz, hb]
end Go.Proofs.Ytaobaeiohjgdcaa
