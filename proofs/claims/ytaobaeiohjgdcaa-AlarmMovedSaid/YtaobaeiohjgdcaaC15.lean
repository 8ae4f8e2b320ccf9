/- Contracts: the kind of an alarm, in the program and in the reference. -/
import Derived.Test.YtaobaeiohjgdcaaC14
namespace Go.Proofs.Ytaobaeiohjgdcaa
open Go Go.V Go.RowKit
theorem polygons_fn (v : Value) (cs : List CaseS) (M : Mem) (hv : CasV M v cs) : V.Fn Try.prog 84 [v] M fun rs M' => ∃ B, rs = [.func (.func 108) #[] #[.pointer (some ⟨B, 0, none⟩)]] ∧ M' B = some (.cells #[v] 22 (0, 0)) := by
  obtain ⟨ad, c, rfl, _⟩ := hv.get
  refine Fn.of_vc cxOK Try.func84 rfl rfl rfl ?_
  repeat (first | refine VIf.tt ?_ | refine VIf.ff ?_)
  refine VFzB.mk fun x B M' hle hB => ?_
  repeat (first | refine VIf.tt ?_ | refine VIf.ff ?_)
  exact VFact.mk ⟨B, rfl, hB⟩ trivial
theorem cases_valid {cs : List CaseS} (h : casesB cs = true) {i : Nat} (hi : i < cs.length) : (gc cs i).st.all validB = true := by
  simp only [casesB, Bool.and_eq_true, all_iff] at h
  have := h.2 i hi
  simp only [caseV, case1, regionB, Bool.and_eq_true] at this
  exact this.1.1.1.2.2
theorem polys_valid {cs : List CaseS} (h : casesB cs = true) {k : Nat} (hk : k < (cs.flatMap (·.st)).length) : validB (gr (cs.flatMap (·.st)) k) = true := by
  have hm : gr (cs.flatMap (·.st)) k ∈ cs.flatMap (·.st) := by
    simp only [gr, List.getD_eq_getElem?_getD, List.getElem?_eq_getElem hk, Option.getD_some]; exact List.getElem_mem hk
  obtain ⟨c, hc, hp⟩ := List.mem_flatMap.1 hm
  obtain ⟨i, hi, rfl⟩ := List.getElem_of_mem hc
  have := cases_valid h hi
  simp only [gc, List.getD_eq_getElem?_getD, List.getElem?_eq_getElem hi, Option.getD_some] at this
  exact List.all_eq_true.1 this _ hp
theorem left_flat (cs : List CaseS) (q : List Pt) : leftB cs q = (cs.flatMap (·.st)).any fun p => !withinB p q := by
  rw [leftB, List.any_flatMap]
theorem kind1_fn (B1 B2 : Nat) (v w : Value) (cs : List CaseS) (q : List Pt) (M : Mem) (hB1 : M B1 = some (.cells #[v] 22 (0, 0))) (hB2 : M B2 = some (.cells #[w] 24 (0, 0))) (hv : CasV M v cs) (hw : Pts M w q) (hcs : casesB cs = true) (hq : validB q = true) :
    V.Fn Try.prog 83 [.pointer (some ⟨B1, 0, none⟩), .pointer (some ⟨B2, 0, none⟩)] M fun rs _ => rs = [.bool (leftB cs q)] := by
  have hq64 : i64P q := fun i hi => ⟨isC_i64 (allC_of hq i hi).1, isC_i64 (allC_of hq i hi).2⟩
  refine Fn.of_vc cxOK Try.func83 rfl rfl rfl ?_
  repeat (first | refine VIf.tt ?_ | refine VIf.ff ?_)
  refine VRead.mk _ (box1 hB1) ?_
  repeat (first | refine VIf.tt ?_ | refine VIf.ff ?_)
  refine VFn.mk _ (polygons_fn v cs M hv) ?_
  rintro rs M1 hM1 ⟨B, rfl, hB⟩
  obtain ⟨ws, hws, hit⟩ := polygons_iter M1 B v cs hB (hv.le hM1)
  obtain ⟨hlen, hget⟩ := hws.get
  rw [left_flat]
  repeat (first | refine VIf.tt ?_ | refine VIf.ff ?_)
  refine VCode.rangeB cxOK rfl hit (fun x hx => ?_) [(0, .v (.pointer (some ⟨B1, 0, none⟩))), (1, .v (.pointer (some ⟨B2, 0, none⟩))), (2, .box 0 0)] rfl (by kernel_rfl) (by kernel_rfl) Mem
    (fun k s => ⟨[(0, .v (.pointer (some ⟨B1, 0, none⟩))), (1, .v (.pointer (some ⟨B2, 0, none⟩))), (2, .box 0 0)], [(0, some (.box 4 [.v (.bool false)]))], 1, s, 17, ⟨fun _ => none, none, fun _ => none⟩⟩)
    (fun k s => M1.le s ∧ ∀ j, j < k → withinB (gr (cs.flatMap (·.st)) j) q = true) M1 ⟨Mem.le_refl _, fun j hj => by omega⟩ ?_ (fun k s => ⟨rfl, rfl⟩) ?_ ?_
  · obtain ⟨u, _, rfl⟩ := List.mem_map.1 hx
    rfl
  · exact (Wk.mk' id (by repeat' constructor) (by repeat' constructor) (injOK_id _) rfl rfl rfl)
  · rintro k M2 args ⟨hM2, hz⟩ hxs m f
    rw [List.getElem?_map] at hxs
    obtain ⟨u, hu, rfl⟩ : ∃ u, ws[k]? = some u ∧ [u] = args := by
      cases h : ws[k]? with
      | none => rw [h] at hxs; cases hxs
      | some u => rw [h] at hxs; exact ⟨u, rfl, by simpa using hxs⟩
    have hk : k < (cs.flatMap (·.st)).length := by rw [← hlen]; exact (List.getElem?_eq_some_iff.1 hu).1
    obtain ⟨hp, hp64⟩ := hget k u hu
    have hpv := polys_valid hcs hk
    have hM2' : M.le M2 := hM1.trans hM2
    obtain ⟨ud, uc, rfl⟩ := hp.shape
    obtain ⟨wd, wc, rfl⟩ := hw.shape
    intro m'
    repeat (first | refine VIf.tt ?_ | refine VIf.ff ?_)
    refine VRead.mk _ (box1 (hM2' _ _ hB2)) ?_
    repeat (first | refine VIf.tt ?_ | refine VIf.ff ?_)
    refine VFn.mk _ (Within_fn _ _ _ q M2 (hp.le hM2) (hw.le hM2') hp64 hq64) ?_
    rintro rs M3 hM3 rfl
    rw [hpv, hq]
    repeat (first | refine VIf.tt ?_ | refine VIf.ff ?_)
    refine VIf.mk (fun hc => ?_) (fun hc => ?_)
    · refine ⟨(⟨[(0, .v (.pointer (some ⟨B1, 0, none⟩))), (1, .v (.pointer (some ⟨B2, 0, none⟩))), (2, .box 0 0)], [(0, some (.box 4 [.v (.bool true)]))], 1, M3, 17, ⟨fun _ => none, none, fun _ => none⟩⟩ : St), (Wk.mk' id (by repeat' constructor) (by repeat' constructor) (injOK_id _) rfl rfl rfl), rfl, rfl, fun m => ?_⟩
      repeat (first | refine VIf.tt ?_ | refine VIf.ff ?_)
      refine VFact.mk ?_ trivial
      rw [any_getD [] (fun p => !withinB p q) _ hk hc]
    · exact ⟨M3, ⟨hM2.trans hM3, stepI hz (bn2 hc)⟩, (Wk.mk' id (by repeat' constructor) (by repeat' constructor) (injOK_id _) rfl rfl rfl)⟩
  · rintro M2 m ⟨hM2, hz⟩
    repeat (first | refine VIf.tt ?_ | refine VIf.ff ?_)
    refine VFact.mk ?_ trivial
    rw [any_none [] _ _ fun i hi => ?_]
    have := hz i (by rw [List.length_map, hlen]; exact hi)
    simp only [gr] at this
    simp only [this, Bool.not_true]
theorem kind_fn (v w : Value) (cs : List CaseS) (q : List Pt) (M : Mem) (hv : CasV M v cs) (hw : Pts M w q) (hcs : casesB cs = true) (hq : validB q = true) :
    V.Fn Try.prog 48 [v, w] M fun rs _ => rs = [.int .i64 (kindB cs q)] := by
  obtain ⟨ad, c, rfl, hm, _⟩ := hv.get
  obtain ⟨wd, wc, rfl⟩ := hw.shape
  refine Fn.of_vc cxOK Try.func48 rfl rfl rfl ?_
  repeat (first | refine VIf.tt ?_ | refine VIf.ff ?_)
  refine VIf.mk (fun h0 => ?_) (fun h0 => ?_)
  · have h0 : cs = [] := List.eq_nil_of_length_eq_zero (by have : (cs.length : Int) = 0 := by simpa using h0
                                                           omega)
    subst h0
    repeat (first | refine VIf.tt ?_ | refine VIf.ff ?_)
    refine VArith.ok (by first | omega | (simp only; omega)) (by first | omega | (simp only; omega)) ?_
    repeat (first | refine VIf.tt ?_ | refine VIf.ff ?_)
    refine VArith.ok (by first | omega | (simp only; omega)) (by first | omega | (simp only; omega)) ?_
    repeat (first | refine VIf.tt ?_ | refine VIf.ff ?_)
    refine VFact.mk ?_ trivial
    rw [show kindB [] q = 1 from if_pos rfl]
    rfl
  · have h0 : cs ≠ [] := fun e => by rw [e] at h0; simp at h0
    repeat (first | refine VIf.tt ?_ | refine VIf.ff ?_)
    refine VOwn.frz ?_
    repeat (first | refine VIf.tt ?_ | refine VIf.ff ?_)
    refine VFzB.mk fun x1 B1 M1 hM1 hB1 => ?_
    repeat (first | refine VIf.tt ?_ | refine VIf.ff ?_)
    refine VFzB.mk fun x2 B2 M2 hM2 hB2 => ?_
    repeat (first | refine VIf.tt ?_ | refine VIf.ff ?_)
    refine VFn.mk _ (kind1_fn B1 B2 _ _ cs q M2 (hM2 _ _ hB1) hB2 (hv.le (hM1.trans hM2)) (hw.le (hM1.trans hM2)) hcs hq) ?_
    rintro rs M3 hM3 rfl
    repeat (first | refine VIf.tt ?_ | refine VIf.ff ?_)
    refine VIf.mk (fun hl => ?_) (fun hl => ?_)
    · repeat (first | refine VIf.tt ?_ | refine VIf.ff ?_)
      refine VArith.ok (by first | omega | (simp only; omega)) (by first | omega | (simp only; omega)) ?_
      repeat (first | refine VIf.tt ?_ | refine VIf.ff ?_)
      refine VFact.mk ?_ trivial
      rw [kindB, if_neg h0, if_pos hl]; rfl
    · repeat (first | refine VIf.tt ?_ | refine VIf.ff ?_)
      refine VFact.mk ?_ trivial
      rw [kindB, if_neg h0, if_neg (by rw [hl]; exact Bool.false_ne_true)]
theorem InsideR_fn (a b s w : Value) (st : List (List Pt)) (q : List Pt) (M : Mem) (hs : RegV M s st) (ha : ∃ x y z, a = .slice x y z) (hb : ∃ x y z, b = .slice x y z) (hw : Pts M w q) (hst : st.all validB = true) (hq : validB q = true) :
    V.Fn Try.prog 86 [.agg #[a, b, s], w] M fun rs _ => rs = [.bool (st.all fun p => withinB p q)] := by
  obtain ⟨a1, a2, a3, rfl⟩ := ha
  obtain ⟨b1, b2, b3, rfl⟩ := hb
  obtain ⟨ad, c, rfl, hm, hrd⟩ := hs.get
  refine Fn.of_vc cxOK Try.func86 rfl rfl rfl ?_
  repeat (first | refine VIf.tt ?_ | refine VIf.ff ?_)
  refine VCode.loop cxOK (Nat × Mem) (fun s => ⟨[(1, .v w), (2, .box 0 0), (5, .v (.int .i64 s.1))], [(0, some (.box 46 [.v (.slice a1 a2 a3), .v (.slice b1 b2 b3), .v (.slice ad st.length c)]))], 1, s.2, 23, ⟨fun _ => none, none, fun _ => none⟩⟩)
    (fun s => M.le s.2 ∧ s.1 ≤ st.length ∧ ∀ j, j < s.1 → withinB (gr st j) q = true) (fun s => st.length - s.1) (0, M) ⟨Mem.le_refl _, Nat.zero_le _, fun j hj => by simp at hj⟩ (Wk.mk' id (by repeat' constructor) (by repeat' constructor) (injOK_id _) rfl rfl rfl) ?_
  rintro ⟨i, M1⟩ ⟨hM1, hi, hz⟩ m
  have hM1 : M.le M1 := hM1
  have hi : i ≤ st.length := hi
  have hz : ∀ j, j < i → withinB (gr st j) q = true := hz
  repeat (first | refine VIf.tt ?_ | refine VIf.ff ?_)
  refine VIf.mk (fun hlt => ?_) (fun hge => ?_)
  · have hlt : i < st.length := lt_of_dec hlt
    obtain ⟨ad', u, rfl, hp, hp64, hc1⟩ := hrd M1 hM1 i hlt
    have hpv := all_at [] hst hlt
    obtain ⟨ud, uc, rfl⟩ := hp.shape
    obtain ⟨wd, wc, rfl⟩ := hw.shape
    repeat (first | refine VIf.tt ?_ | refine VIf.ff ?_)
    refine VIdx.mk ad' i rfl rfl hlt ?_
    repeat (first | refine VIf.tt ?_ | refine VIf.ff ?_)
    refine VRead.mk _ hc1 ?_
    repeat (first | refine VIf.tt ?_ | refine VIf.ff ?_)
    refine VFn.mk _ (Lies_fn _ _ _ q M1 hp (hw.le hM1) (allC_of hpv) (by have := valid_len hpv; omega) (allC_of hq)) ?_
    rintro rs M2 hM2 rfl
    repeat (first | refine VIf.tt ?_ | refine VIf.ff ?_)
    refine VIf.mk (fun hc => ?_) (fun hc => ?_)
    · repeat (first | refine VIf.tt ?_ | refine VIf.ff ?_)
      refine VFact.mk ?_ trivial
      rw [all_getD' [] (fun p => withinB p q) _ hlt (bn1 hc)]
    · repeat (first | refine VIf.tt ?_ | refine VIf.ff ?_)
      refine VArith.ok (by first | omega | (simp only; omega)) (by first | omega | (simp only; omega)) ?_
      exact ⟨(i + 1, M2), ⟨hM1.trans hM2, hlt, stepI hz (bn2 hc)⟩, (by first | omega | (simp only; omega)), (Wk.mk' id (by repeat' constructor) (by repeat' constructor) (injOK_id _) rfl rfl rfl)⟩
  · have : i = st.length := by have := ge_of_dec hge; omega
    subst this
    repeat (first | refine VIf.tt ?_ | refine VIf.ff ?_)
    refine VFact.mk ?_ trivial
    rw [all_getD [] (fun p => withinB p q) _ hz]
theorem any_all {α : Type} (g : α → Bool) : ∀ l : List α, (l.any fun x => !g x) = !l.all g
  | [] => rfl
  | x :: l => by simp only [List.any_cons, List.all_cons, Bool.not_and, any_all g l]
theorem left_all (cs : List CaseS) (q : List Pt) : leftB cs q = !cs.all fun c => c.st.all fun p => withinB p q := by
  rw [leftB, ← any_all]
  congr 1
  funext c
  exact any_all _ _
theorem kindR_fn (v w : Value) (cs : List CaseS) (q : List Pt) (M : Mem) (hv : CasV M v cs) (hw : Pts M w q) (hcs : casesB cs = true) (hq : validB q = true) :
    V.Fn Try.prog 49 [v, w] M fun rs _ => rs = [.int .i64 (kindB cs q)] := by
  obtain ⟨ad, c, rfl, hm, hrd⟩ := hv.get
  obtain ⟨wd, wc, rfl⟩ := hw.shape
  refine Fn.of_vc cxOK Try.func49 rfl rfl rfl ?_
  repeat (first | refine VIf.tt ?_ | refine VIf.ff ?_)
  refine VIf.mk (fun h0 => ?_) (fun h0 => ?_)
  · have h0 : cs = [] := List.eq_nil_of_length_eq_zero (by have : (cs.length : Int) = 0 := by simpa using h0
                                                           omega)
    subst h0
    repeat (first | refine VIf.tt ?_ | refine VIf.ff ?_)
    exact VFact.mk rfl trivial
  have h0 : cs ≠ [] := fun e => by rw [e] at h0; simp at h0
  rw [show kindB cs q = if leftB cs q = true then 2 else 0 from if_neg h0, left_all]
  repeat (first | refine VIf.tt ?_ | refine VIf.ff ?_)
  refine VCode.loop cxOK (Nat × Mem) (fun s => ⟨[(0, .v (.slice ad cs.length c)), (1, .v (.slice wd q.length wc)), (5, .v (.int .i64 s.1))], [], 0, s.2, 24, ⟨fun _ => none, none, fun _ => none⟩⟩)
    (fun s => M.le s.2 ∧ s.1 ≤ cs.length ∧ ∀ j, j < s.1 → ((gc cs j).st.all fun p => withinB p q) = true) (fun s => cs.length - s.1) (0, M) ⟨Mem.le_refl _, Nat.zero_le _, fun j hj => by simp at hj⟩ (Wk.mk' id (by repeat' constructor) (by repeat' constructor) (injOK_id _) rfl rfl rfl) ?_
  rintro ⟨i, M1⟩ ⟨hM1, hi, hz⟩ m
  have hM1 : M.le M1 := hM1
  have hi : i ≤ cs.length := hi
  have hz : ∀ j, j < i → ((gc cs j).st.all fun p => withinB p q) = true := hz
  repeat (first | refine VIf.tt ?_ | refine VIf.ff ?_)
  refine VIf.mk (fun hlt => ?_) (fun hge => ?_)
  · have hlt : i < cs.length := lt_of_dec hlt
    obtain ⟨ad', a, b, s, rfl, ha, hb, hs, hc1⟩ := hrd M1 hM1 i hlt
    obtain ⟨x1, x2, rfl, _⟩ := ha.get
    obtain ⟨y1, y2, rfl, _⟩ := hb.get
    obtain ⟨z1, z2, rfl⟩ := hs.shape
    repeat (first | refine VIf.tt ?_ | refine VIf.ff ?_)
    refine VIdx.mk ad' i rfl rfl hlt ?_
    repeat (first | refine VIf.tt ?_ | refine VIf.ff ?_)
    refine VReads.mk [.slice x1 (gc cs i).sn.length x2, .slice y1 (gc cs i).cl.length y2, .slice z1 (gc cs i).st.length z2] rfl hc1 ?_
    repeat (first | refine VIf.tt ?_ | refine VIf.ff ?_)
    refine VFn.mk _ (InsideR_fn _ _ _ _ _ q M1 hs ⟨_, _, _, rfl⟩ ⟨_, _, _, rfl⟩ (hw.le hM1) (cases_valid hcs hlt) hq) ?_
    rintro rs M2 hM2 rfl
    repeat (first | refine VIf.tt ?_ | refine VIf.ff ?_)
    refine VIf.mk (fun hc => ?_) (fun hc => ?_)
    · repeat (first | refine VIf.tt ?_ | refine VIf.ff ?_)
      refine VFact.mk ?_ trivial
      rw [all_getD' (⟨[], [], []⟩ : CaseS) (fun c : CaseS => c.st.all fun p => withinB p q) _ hlt (bn1 hc)]; rfl
    · repeat (first | refine VIf.tt ?_ | refine VIf.ff ?_)
      refine VArith.ok (by first | omega | (simp only; omega)) (by first | omega | (simp only; omega)) ?_
      exact ⟨(i + 1, M2), ⟨hM1.trans hM2, hlt, stepI hz (bn2 hc)⟩, (by first | omega | (simp only; omega)), (Wk.mk' id (by repeat' constructor) (by repeat' constructor) (injOK_id _) rfl rfl rfl)⟩
  · have : i = cs.length := by have := ge_of_dec hge; omega
    subst this
    repeat (first | refine VIf.tt ?_ | refine VIf.ff ?_)
    refine VFact.mk ?_ trivial
    rw [all_getD (⟨[], [], []⟩ : CaseS) (fun c : CaseS => c.st.all fun p => withinB p q) _ hz]; rfl
def raiseV (r : Int × Int) : List Value := [.int .i64 r.1, .int .i64 r.2]
theorem Raise_fn (v w : Value) (cs : List CaseS) (q : List Pt) (M : Mem) (hv : CasV M v cs) (hw : Pts M w q) (hq64 : i64P q) : V.Fn Try.prog 19 [v, w] M fun rs _ => rs = raiseV (raiseB cs q) := by
  obtain ⟨ad, c, rfl, hm, _⟩ := hv.get
  obtain ⟨wd, wc, rfl⟩ := hw.shape
  refine Fn.of_vc cxOK Try.func19 rfl rfl rfl ?_
  repeat (first | refine VIf.tt ?_ | refine VIf.ff ?_)
  refine VFn.mk _ (casesC_fn _ cs M hv) ?_
  rintro rs M1 hM1 rfl
  repeat (first | refine VIf.tt ?_ | refine VIf.ff ?_)
  refine VIf.mk (fun h1 => ?_) (fun h1 => ?_)
  · repeat (first | refine VIf.tt ?_ | refine VIf.ff ?_)
    refine VFact.mk ?_ trivial
    rw [raiseB, bn1 h1]; rfl
  repeat (first | refine VIf.tt ?_ | refine VIf.ff ?_)
  refine VFn.mk _ (Valid_fn _ q M1 (hw.le hM1) hq64) ?_
  rintro rs M2 hM2 rfl
  repeat (first | refine VIf.tt ?_ | refine VIf.ff ?_)
  refine VIf.mk (fun h2 => ?_) (fun h2 => ?_)
  · repeat (first | refine VIf.tt ?_ | refine VIf.ff ?_)
    refine VFact.mk ?_ trivial
    rw [raiseB, bn1 h2, Bool.and_false]; rfl
  repeat (first | refine VIf.tt ?_ | refine VIf.ff ?_)
  refine VFn.mk _ (kind_fn _ _ cs q M2 (hv.le (hM1.trans hM2)) (hw.le (hM1.trans hM2)) (bn2 h1) (bn2 h2)) ?_
  rintro rs M3 hM3 rfl
  repeat (first | refine VIf.tt ?_ | refine VIf.ff ?_)
  refine VFact.mk ?_ trivial
  rw [raiseB, bn2 h1, bn2 h2]; rfl
theorem RaiseR_fn (v w : Value) (cs : List CaseS) (q : List Pt) (M : Mem) (hv : CasV M v cs) (hw : Pts M w q) (hq64 : i64P q) : V.Fn Try.prog 20 [v, w] M fun rs _ => rs = raiseV (raiseB cs q) := by
  obtain ⟨ad, c, rfl, hm, _⟩ := hv.get
  obtain ⟨wd, wc, rfl⟩ := hw.shape
  refine Fn.of_vc cxOK Try.func20 rfl rfl rfl ?_
  repeat (first | refine VIf.tt ?_ | refine VIf.ff ?_)
  refine VFn.p (casesR_fn _ cs M hv) ?_
  repeat (first | refine VIf.tt ?_ | refine VIf.ff ?_)
  refine VFn.p (ValidR_fn _ q M hw hq64) ?_
  rw [validR_eq]
  repeat (first | refine VIf.tt ?_ | refine VIf.ff ?_)
  refine VIf.mk (fun h1 => ?_) (fun h1 => ?_)
  · repeat (first | refine VIf.tt ?_ | refine VIf.ff ?_)
    refine VFact.mk ?_ trivial
    rw [raiseB, bn1 h1]; rfl
  repeat (first | refine VIf.tt ?_ | refine VIf.ff ?_)
  refine VIf.mk (fun h2 => ?_) (fun h2 => ?_)
  · repeat (first | refine VIf.tt ?_ | refine VIf.ff ?_)
    refine VFact.mk ?_ trivial
    rw [raiseB, bn1 h2, Bool.and_false]; rfl
  repeat (first | refine VIf.tt ?_ | refine VIf.ff ?_)
  refine VFn.mk _ (kindR_fn _ _ cs q M hv hw (bn2 h1) (bn2 h2)) ?_
  rintro rs M3 hM3 rfl
  repeat (first | refine VIf.tt ?_ | refine VIf.ff ?_)
  refine VFact.mk ?_ trivial
  rw [raiseB, bn2 h1, bn2 h2]; rfl
end Go.Proofs.Ytaobaeiohjgdcaa
