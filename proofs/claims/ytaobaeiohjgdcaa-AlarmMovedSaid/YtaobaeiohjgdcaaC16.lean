/- Contracts: the first alarm of beliefs; what is few. -/
import Derived.Test.YtaobaeiohjgdcaaC15
namespace Go.Proofs.Ytaobaeiohjgdcaa
open Go Go.V Go.RowKit
theorem BeliefsR_fn (v : Value) (bs : List BelS) (M : Mem) (hv : BelsV M v bs) : FnP Try.prog 50 [v] M [.bool (belB bs)] := by
  obtain ⟨ad, c, rfl, hm, hrd⟩ := hv.get
  refine Fn.of_vc cxOK Try.func50 rfl rfl rfl ?_
  repeat (first | refine VIf.tt ?_ | refine VIf.ff ?_)
  refine VCode.loop cxOK Nat (fun i => ⟨[(0, .v (.slice ad bs.length c)), (3, .v (.int .i64 (lastT bs i))), (4, .v (.int .i64 i))], [], 0, M, 42, ⟨fun _ => none, none, fun _ => none⟩⟩)
    (fun i => i ≤ bs.length ∧ ∀ j, j < i → belV bs j = true) (fun i => bs.length - i) 0 ⟨Nat.zero_le _, fun j hj => by omega⟩ (Wk.mk' id (by repeat' constructor) (by repeat' constructor) (injOK_id _) rfl rfl rfl) ?_
  rintro i ⟨hi, hz⟩ m
  repeat (first | refine VIf.tt ?_ | refine VIf.ff ?_)
  refine VIf.mk (fun hlt => ?_) (fun hge => ?_)
  · have hlt : i < bs.length := lt_of_dec hlt
    obtain ⟨ad', w, rfl, _, hw, hc1⟩ := hrd M (Mem.le_refl _) i hlt
    have bad : belV bs i = false → belB bs = false := fun h => all_false hlt h
    repeat (first | refine VIf.tt ?_ | refine VIf.ff ?_)
    refine VIdx.mk ad' i rfl rfl hlt ?_
    repeat (first | refine VIf.tt ?_ | refine VIf.ff ?_)
    refine VRead.mk w (hc1 1 _ rfl) ?_
    repeat (first | refine VIf.tt ?_ | refine VIf.ff ?_)
    refine VFn.p (casesR_fn w _ M hw) ?_
    repeat (first | refine VIf.tt ?_ | refine VIf.ff ?_)
    refine VIdx.mk ad' i rfl rfl hlt ?_
    repeat (first | refine VIf.tt ?_ | refine VIf.ff ?_)
    refine VRead.mk _ (hc1 0 _ rfl) ?_
    repeat (first | refine VIf.tt ?_ | refine VIf.ff ?_)
    refine VIf.mk (fun h1 => ?_) (fun h1 => ?_)
    · repeat (first | refine VIf.tt ?_ | refine VIf.ff ?_)
      refine VFact.mk ⟨?_, rfl⟩ trivial
      have h1 := of_decide_eq_true h1
      rw [bad (by simp only [belV, Bool.and_eq_false_iff, decide_eq_false_iff_not]; omega)]
    repeat (first | refine VIf.tt ?_ | refine VIf.ff ?_)
    refine VIdx.mk ad' i rfl rfl hlt ?_
    repeat (first | refine VIf.tt ?_ | refine VIf.ff ?_)
    refine VRead.mk _ (hc1 0 _ rfl) ?_
    repeat (first | refine VIf.tt ?_ | refine VIf.ff ?_)
    refine VIf.mk (fun h2 => ?_) (fun h2 => ?_)
    · repeat (first | refine VIf.tt ?_ | refine VIf.ff ?_)
      refine VFact.mk ⟨?_, rfl⟩ trivial
      have h2 := of_decide_eq_true h2
      rw [bad (by simp only [belV, Bool.and_eq_false_iff, decide_eq_false_iff_not]; omega)]
    repeat (first | refine VIf.tt ?_ | refine VIf.ff ?_)
    refine VIf.mk (fun h3 => ?_) (fun h3 => ?_)
    · repeat (first | refine VIf.tt ?_ | refine VIf.ff ?_)
      refine VFact.mk ⟨?_, rfl⟩ trivial
      rw [bad (by simp only [belV, bn1 h3, Bool.and_false])]
    have h1 := of_decide_eq_false h1
    have h2 := of_decide_eq_false h2
    repeat (first | refine VIf.tt ?_ | refine VIf.ff ?_)
    refine VIdx.mk ad' i rfl rfl hlt ?_
    repeat (first | refine VIf.tt ?_ | refine VIf.ff ?_)
    refine VRead.mk _ (hc1 0 _ rfl) ?_
    repeat (first | refine VIf.tt ?_ | refine VIf.ff ?_)
    refine VArith.ok (by first | omega | (simp only; omega)) (by first | omega | (simp only; omega)) ?_
    exact ⟨i + 1, ⟨hlt, stepI hz (by simp only [belV, bn2 h3, Bool.and_true, decide_eq_true_eq]; omega)⟩, (by first | omega | (simp only; omega)), (Wk.mk' id (by repeat' constructor) (by repeat' constructor) (injOK_id _) rfl rfl rfl)⟩
  · have : i = bs.length := by have := ge_of_dec hge; omega
    subst this
    repeat (first | refine VIf.tt ?_ | refine VIf.ff ?_)
    refine VFact.mk ⟨?_, rfl⟩ trivial
    rw [belB, all_true hz]
def firstV (r : Int × Int × Int) : List Value := [.int .i64 r.1, .int .i64 r.2.1, .int .i64 r.2.2]
theorem first_lim {bs : List BelS} {q : List Pt} (h : 2001 < bs.length) : firstB bs q = (0, 0, 2) := if_pos h
theorem first_arg {bs : List BelS} {q : List Pt} (h : ¬ 2001 < bs.length) (hb : (belB bs && validB q) = false) : firstB bs q = (0, 0, 1) := by rw [firstB, if_neg h, hb]; rfl
theorem first_ok {bs : List BelS} {q : List Pt} (h : ¬ 2001 < bs.length) (hb : belB bs = true) (hq : validB q = true) : firstB bs q = ((fstB q bs).1, (fstB q bs).2, 0) := by rw [firstB, if_neg h, hb, hq]; rfl
theorem bel_cases {bs : List BelS} (h : belB bs = true) {i : Nat} (hi : i < bs.length) : casesB (gb bs i).cs = true := by
  have := all_iff.1 h i hi
  simp only [belV, Bool.and_eq_true] at this
  exact this.2
theorem FirstR_fn (v w : Value) (bs : List BelS) (q : List Pt) (M : Mem) (hv : BelsV M v bs) (hw : Pts M w q) (hq64 : i64P q) : V.Fn Try.prog 22 [v, w] M fun rs _ => rs = firstV (firstB bs q) := by
  obtain ⟨ad, c, rfl, hm, hrd⟩ := hv.get
  obtain ⟨wd, wc, rfl⟩ := hw.shape
  refine Fn.of_vc cxOK Try.func22 rfl rfl rfl ?_
  repeat (first | refine VIf.tt ?_ | refine VIf.ff ?_)
  refine VIf.mk (fun h0 => ?_) (fun h0 => ?_)
  · repeat (first | refine VIf.tt ?_ | refine VIf.ff ?_)
    refine VFact.mk ?_ trivial
    rw [first_lim (by have := of_decide_eq_true h0; omega)]; rfl
  have h0 : ¬ 2001 < bs.length := by have := of_decide_eq_false h0; omega
  repeat (first | refine VIf.tt ?_ | refine VIf.ff ?_)
  refine VFn.p (BeliefsR_fn _ bs M hv) ?_
  repeat (first | refine VIf.tt ?_ | refine VIf.ff ?_)
  refine VFn.p (ValidR_fn _ q M hw hq64) ?_
  rw [validR_eq]
  repeat (first | refine VIf.tt ?_ | refine VIf.ff ?_)
  refine VIf.mk (fun h1 => ?_) (fun h1 => ?_)
  · repeat (first | refine VIf.tt ?_ | refine VIf.ff ?_)
    refine VFact.mk ?_ trivial
    rw [first_arg h0 (by rw [bn1 h1]; rfl)]; rfl
  repeat (first | refine VIf.tt ?_ | refine VIf.ff ?_)
  refine VIf.mk (fun h2 => ?_) (fun h2 => ?_)
  · repeat (first | refine VIf.tt ?_ | refine VIf.ff ?_)
    refine VFact.mk ?_ trivial
    rw [first_arg h0 (by rw [bn1 h2, Bool.and_false])]; rfl
  have h1 := bn2 h1
  have h2 := bn2 h2
  rw [first_ok h0 h1 h2]
  repeat (first | refine VIf.tt ?_ | refine VIf.ff ?_)
  refine VCode.loop cxOK (Nat × Mem) (fun s => ⟨[(0, .v (.slice ad bs.length c)), (1, .v (.slice wd q.length wc)), (9, .v (.int .i64 s.1))], [], 0, s.2, 43, ⟨fun _ => none, none, fun _ => none⟩⟩)
    (fun s => M.le s.2 ∧ s.1 ≤ bs.length ∧ ∀ j, j < s.1 → kindB (gb bs j).cs q = 0) (fun s => bs.length - s.1) (0, M) ⟨Mem.le_refl _, Nat.zero_le _, fun j hj => by simp at hj⟩ (Wk.mk' id (by repeat' constructor) (by repeat' constructor) (injOK_id _) rfl rfl rfl) ?_
  rintro ⟨i, M1⟩ ⟨hM1, hi, hz⟩ m
  have hM1 : M.le M1 := hM1
  have hi : i ≤ bs.length := hi
  have hz : ∀ j, j < i → kindB (gb bs j).cs q = 0 := hz
  repeat (first | refine VIf.tt ?_ | refine VIf.ff ?_)
  refine VIf.mk (fun hlt => ?_) (fun hge => ?_)
  · have hlt : i < bs.length := lt_of_dec hlt
    obtain ⟨ad', u, rfl, _, hu, hc1⟩ := hrd M1 hM1 i hlt
    repeat (first | refine VIf.tt ?_ | refine VIf.ff ?_)
    refine VIdx.mk ad' i rfl rfl hlt ?_
    repeat (first | refine VIf.tt ?_ | refine VIf.ff ?_)
    refine VRead.mk u (hc1 1 _ rfl) ?_
    repeat (first | refine VIf.tt ?_ | refine VIf.ff ?_)
    refine VFn.mk _ (kindR_fn u _ _ q M1 hu (hw.le hM1) (bel_cases h1 hlt) h2) ?_
    rintro rs M2 hM2 rfl
    repeat (first | refine VIf.tt ?_ | refine VIf.ff ?_)
    refine VIf.mk (fun hc => ?_) (fun hc => ?_)
    · repeat (first | refine VIf.tt ?_ | refine VIf.ff ?_)
      refine VFact.mk ?_ trivial
      rw [fst_here hlt hz (bne_iff_ne.1 hc)]; rfl
    · repeat (first | refine VIf.tt ?_ | refine VIf.ff ?_)
      refine VArith.ok (by first | omega | (simp only; omega)) (by first | omega | (simp only; omega)) ?_
      refine ⟨(i + 1, M2), ⟨hM1.trans hM2, hlt, fun j hj => ?_⟩, (by first | omega | (simp only; omega)), (Wk.mk' id (by repeat' constructor) (by repeat' constructor) (injOK_id _) rfl rfl rfl)⟩
      by_cases e : j = i
      · subst e; exact bne_eq_false_iff_eq.1 hc
      · exact hz j (by simp only at hj ⊢; omega)
  · have : i = bs.length := by have := ge_of_dec hge; omega
    subst this
    repeat (first | refine VIf.tt ?_ | refine VIf.ff ?_)
    refine VFact.mk ?_ trivial
    rw [fst_none hz]; rfl
theorem First_fn (v w : Value) (bs : List BelS) (q : List Pt) (M : Mem) (hv : BelsV M v bs) (hw : Pts M w q) (hq64 : i64P q) : V.Fn Try.prog 21 [v, w] M fun rs _ => rs = firstV (firstB bs q) := by
  obtain ⟨ad, c, rfl, hm, hrd⟩ := hv.get
  obtain ⟨wd, wc, rfl⟩ := hw.shape
  refine Fn.of_vc cxOK Try.func21 rfl rfl rfl ?_
  repeat (first | refine VIf.tt ?_ | refine VIf.ff ?_)
  refine VIf.mk (fun h0 => ?_) (fun h0 => ?_)
  · repeat (first | refine VIf.tt ?_ | refine VIf.ff ?_)
    refine VFact.mk ?_ trivial
    rw [first_lim (by have := of_decide_eq_true h0; omega)]; rfl
  have h0 : ¬ 2001 < bs.length := by have := of_decide_eq_false h0; omega
  repeat (first | refine VIf.tt ?_ | refine VIf.ff ?_)
  refine VFn.mk _ (Valid_fn _ q M hw hq64) ?_
  rintro rs M1 hM1 rfl
  repeat (first | refine VIf.tt ?_ | refine VIf.ff ?_)
  refine VIf.mk (fun h2 => ?_) (fun h2 => ?_)
  · repeat (first | refine VIf.tt ?_ | refine VIf.ff ?_)
    refine VFact.mk ?_ trivial
    rw [first_arg h0 (by rw [bn1 h2, Bool.and_false])]; rfl
  have h2 := bn2 h2
  repeat (first | refine VIf.tt ?_ | refine VIf.ff ?_)
  refine VCode.loop cxOK (Nat × Mem) (fun s => ⟨[(0, .v (.slice ad bs.length c)), (1, .v (.slice wd q.length wc)), (7, .v (.int .i64 (lastT bs s.1))), (19, .v (.slice ad bs.length c)), (20, .v (.int .i64 bs.length)), (21, .v (.int .i64 s.1))], [], 0, s.2, 61, ⟨fun _ => none, none, fun _ => none⟩⟩)
    (fun s => M.le s.2 ∧ s.1 ≤ bs.length ∧ ∀ j, j < s.1 → belV bs j = true) (fun s => bs.length - s.1) (0, M1) ⟨hM1, Nat.zero_le _, fun j hj => by simp at hj⟩ (Wk.mk' id (by repeat' constructor) (by repeat' constructor) (injOK_id _) rfl rfl rfl) ?_
  rintro ⟨i, M2⟩ ⟨hM2, hi, hz⟩ m
  have hM2 : M.le M2 := hM2
  have hi : i ≤ bs.length := hi
  have hz : ∀ j, j < i → belV bs j = true := hz
  repeat (first | refine VIf.tt ?_ | refine VIf.ff ?_)
  refine VIf.mk (fun hlt => ?_) (fun hge => ?_)
  · have hlt : i < bs.length := lt_of_dec hlt
    obtain ⟨ad', u, rfl, _, hu, hc1⟩ := hrd M2 hM2 i hlt
    have bad : belV bs i = false → firstB bs q = (0, 0, 1) := fun h => first_arg h0 (by rw [show belB bs = false from all_false hlt h]; rfl)
    obtain ⟨ud, uc, rfl, _⟩ := hu.get
    repeat (first | refine VIf.tt ?_ | refine VIf.ff ?_)
    refine VIdx.mk ad' i rfl rfl hlt ?_
    repeat (first | refine VIf.tt ?_ | refine VIf.ff ?_)
    refine VReads.mk [.int .i64 (gb bs i).t, .slice ud (gb bs i).cs.length uc] rfl hc1 ?_
    repeat (first | refine VIf.tt ?_ | refine VIf.ff ?_)
    refine VIf.mk (fun h1 => ?_) (fun h1 => ?_)
    · repeat (first | refine VIf.tt ?_ | refine VIf.ff ?_)
      refine VFact.mk ?_ trivial
      have h1 : (gb bs i).t < lastT bs i := of_decide_eq_true h1
      rw [bad (by simp only [belV, Bool.and_eq_false_iff, decide_eq_false_iff_not]; omega)]; rfl
    repeat (first | refine VIf.tt ?_ | refine VIf.ff ?_)
    refine VIf.mk (fun h3 => ?_) (fun h3 => ?_)
    · repeat (first | refine VIf.tt ?_ | refine VIf.ff ?_)
      refine VFact.mk ?_ trivial
      have h3 := of_decide_eq_true h3
      rw [bad (by simp only [belV, Bool.and_eq_false_iff, decide_eq_false_iff_not]; omega)]; rfl
    have h1 : ¬ (gb bs i).t < lastT bs i := of_decide_eq_false h1
    have h3 := of_decide_eq_false h3
    repeat (first | refine VIf.tt ?_ | refine VIf.ff ?_)
    refine VFn.mk _ (casesC_fn _ _ M2 hu) ?_
    rintro rs M3 hM3 rfl
    repeat (first | refine VIf.tt ?_ | refine VIf.ff ?_)
    refine VIf.mk (fun h4 => ?_) (fun h4 => ?_)
    · repeat (first | refine VIf.tt ?_ | refine VIf.ff ?_)
      refine VFact.mk ?_ trivial
      rw [bad (by simp only [belV, bn1 h4, Bool.and_false])]; rfl
    · repeat (first | refine VIf.tt ?_ | refine VIf.ff ?_)
      refine VArith.ok (by first | omega | (simp only; omega)) (by first | omega | (simp only; omega)) ?_
      exact ⟨(i + 1, M3), ⟨hM2.trans hM3, hlt, stepI hz (by simp only [belV, bn2 h4, Bool.and_true, decide_eq_true_eq]; omega)⟩, (by first | omega | (simp only; omega)), (Wk.mk' id (by repeat' constructor) (by repeat' constructor) (injOK_id _) rfl rfl rfl)⟩
  have hin : i = bs.length := by have := ge_of_dec hge; omega
  subst hin
  have hb : belB bs = true := all_true hz
  rw [first_ok h0 hb h2]
  repeat (first | refine VIf.tt ?_ | refine VIf.ff ?_)
  refine VCode.loop cxOK (Nat × Mem) (fun s => ⟨[(0, .v (.slice ad bs.length c)), (1, .v (.slice wd q.length wc)), (43, .v (.slice ad bs.length c)), (44, .v (.int .i64 bs.length)), (45, .v (.int .i64 s.1))], [], 0, s.2, 61, ⟨fun _ => none, none, fun _ => none⟩⟩)
    (fun s => M.le s.2 ∧ s.1 ≤ bs.length ∧ ∀ j, j < s.1 → kindB (gb bs j).cs q = 0) (fun s => bs.length - s.1) (0, M2) ⟨hM2, Nat.zero_le _, fun j hj => by simp at hj⟩ (Wk.mk' id (by repeat' constructor) (by repeat' constructor) (injOK_id _) rfl rfl rfl) ?_
  rintro ⟨i, M3⟩ ⟨hM3, hi, hz⟩ m
  have hM3 : M.le M3 := hM3
  have hi : i ≤ bs.length := hi
  have hz : ∀ j, j < i → kindB (gb bs j).cs q = 0 := hz
  repeat (first | refine VIf.tt ?_ | refine VIf.ff ?_)
  refine VIf.mk (fun hlt => ?_) (fun hge => ?_)
  · have hlt : i < bs.length := lt_of_dec hlt
    obtain ⟨ad', u, rfl, _, hu, hc1⟩ := hrd M3 hM3 i hlt
    obtain ⟨ud, uc, rfl, _⟩ := hu.get
    repeat (first | refine VIf.tt ?_ | refine VIf.ff ?_)
    refine VIdx.mk ad' i rfl rfl hlt ?_
    repeat (first | refine VIf.tt ?_ | refine VIf.ff ?_)
    refine VReads.mk [.int .i64 (gb bs i).t, .slice ud (gb bs i).cs.length uc] rfl hc1 ?_
    repeat (first | refine VIf.tt ?_ | refine VIf.ff ?_)
    refine VFn.mk _ (kind_fn _ _ _ q M3 hu (hw.le hM3) (bel_cases hb hlt) h2) ?_
    rintro rs M4 hM4 rfl
    repeat (first | refine VIf.tt ?_ | refine VIf.ff ?_)
    refine VIf.mk (fun hc => ?_) (fun hc => ?_)
    · repeat (first | refine VIf.tt ?_ | refine VIf.ff ?_)
      refine VFact.mk ?_ trivial
      rw [fst_here hlt hz (bne_iff_ne.1 hc)]; rfl
    · repeat (first | refine VIf.tt ?_ | refine VIf.ff ?_)
      refine VArith.ok (by first | omega | (simp only; omega)) (by first | omega | (simp only; omega)) ?_
      refine ⟨(i + 1, M4), ⟨hM3.trans hM4, hlt, fun j hj => ?_⟩, (by first | omega | (simp only; omega)), (Wk.mk' id (by repeat' constructor) (by repeat' constructor) (injOK_id _) rfl rfl rfl)⟩
      by_cases e : j = i
      · subst e; exact bne_eq_false_iff_eq.1 hc
      · exact hz j (by simp only at hj ⊢; omega)
  · have : i = bs.length := by have := ge_of_dec hge; omega
    subst this
    repeat (first | refine VIf.tt ?_ | refine VIf.ff ?_)
    refine VFact.mk ?_ trivial
    rw [fst_none hz]; rfl
end Go.Proofs.Ytaobaeiohjgdcaa
