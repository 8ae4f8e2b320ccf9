/- CutMeets: each place that two polygons have is in what they have in common; this is the same whoever is the first one, and within 1 of the rectangles of both. No conditions beyond the statement's own. -/
import Derived.Test.YtlihojecopfgfaaHa8
set_option linter.unusedVariables false
set_option linter.unusedSimpArgs false
/- Contracts of package cut: slices.MinFunc, Common. -/
namespace Go.Proofs.Ytlihojecopfgfaa
open Go Go.V Go.RowKit
set_option maxRecDepth 20000 in
set_option maxHeartbeats 2000000 in
theorem Min_fn (v : Value) (ps : List Pt) (M : Mem) (hv : Pts M v ps) (h0 : 1 ≤ ps.length) : V.Fn Try.prog 44 [v, .func (.func 39) #[] #[]] M fun rs _ => ∃ x ∈ ps, rs = [ptv x] := by
  obtain ⟨ad, c, rfl⟩ := hv.shape
  obtain ⟨_, hm, hrd⟩ := hv.cellsOf
  obtain ⟨ad', rfl, hp0⟩ := hrd M (Mem.le_refl _) 0 (by omega)
  refine Fn.of_vc cxOK Try.func44 rfl rfl rfl ?_
  repeat (first | refine VIf.tt ?_ | refine VIf.ff ?_)
  refine VIf.mk (fun h => ?_) (fun _ => ?_)
  · have := of_decide_eq_true h; omega
  repeat (first | refine VIf.tt ?_ | refine VIf.ff ?_)
  refine VIdx.mk ad' 0 rfl rfl (by omega) ?_
  repeat (first | refine VIf.tt ?_ | refine VIf.ff ?_)
  refine VReads.mk [.int .i64 (gp ps 0).1, .int .i64 (gp ps 0).2] rfl hp0 ?_
  repeat (first | refine VIf.tt ?_ | refine VIf.ff ?_)
  refine VCode.loop cxOK (Nat × Nat × Mem) (fun s => ⟨[(0, .v (.slice (some ad') ps.length c)), (1, .v (.func (.func 39) #[] #[])), (4, .box 0 0), (5, .box 1 0), (6, .v (.int .i64 s.1))], [(1, some (.box 26 [.v (.int .i64 (gp ps s.2.1).1), .v (.int .i64 (gp ps s.2.1).2)])), (0, some (.box 26 [.v (.int .i64 0), .v (.int .i64 0)]))], 2, s.2.2, 33, ⟨fun _ => none, none, fun _ => none⟩⟩)
    (fun s => 1 ≤ s.1 ∧ s.1 ≤ ps.length ∧ s.2.1 < ps.length ∧ M.le s.2.2) (fun s => ps.length - s.1) (1, 0, M) ⟨Nat.le_refl _, h0, by simp only; omega, Mem.le_refl _⟩ (Wk.mk' id (by repeat' constructor) (by repeat' constructor) (injOK_id _) rfl rfl rfl) ?_
  rintro ⟨i, b, M1⟩ ⟨hi0, hi, hb, hM1⟩ m
  simp only at hi0 hi hb hM1
  repeat (first | refine VIf.tt ?_ | refine VIf.ff ?_)
  refine VIf.mk (fun hlt => ?_) (fun hge => ?_)
  rotate_left
  · repeat (first | refine VIf.tt ?_ | refine VIf.ff ?_)
    exact VFact.mk ⟨gp ps b, gp_mem hb, rfl⟩ trivial
  have hlt : i < ps.length := by have := of_decide_eq_true hlt; simp only at this; omega
  obtain ⟨_, e, hp⟩ := hrd M1 hM1 i hlt
  cases e
  repeat (first | refine VIf.tt ?_ | refine VIf.ff ?_)
  refine VDraw.go (by kernel_rfl) ?_
  repeat (first | refine VIf.tt ?_ | refine VIf.ff ?_)
  refine VIdx.mk ad' i rfl rfl hlt ?_
  repeat (first | refine VIf.tt ?_ | refine VIf.ff ?_)
  refine VReads.mk [.int .i64 (gp ps i).1, .int .i64 (gp ps i).2] rfl hp ?_
  repeat (first | refine VIf.tt ?_ | refine VIf.ff ?_)
  refine VFn.mk _ (compareC_fn (gp ps i).1 (gp ps i).2 (gp ps b).1 (gp ps b).2 M1) ?_
  rintro rs M2 hM2 rfl
  repeat (first | refine VIf.tt ?_ | refine VIf.ff ?_)
  refine VIf.mk (fun hc => ?_) (fun hc => ?_)
  · obtain ⟨_, e, hp2⟩ := hrd M2 (hM1.trans hM2) i hlt
    cases e
    repeat (first | refine VIf.tt ?_ | refine VIf.ff ?_)
    refine VIdx.mk ad' i rfl rfl hlt ?_
    repeat (first | refine VIf.tt ?_ | refine VIf.ff ?_)
    refine VReads.mk [.int .i64 (gp ps i).1, .int .i64 (gp ps i).2] rfl hp2 ?_
    unfold maxLen at hm
    repeat (first | refine VIf.tt ?_ | refine VIf.ff ?_)
    refine VArith.ok (by first | omega | (simp only; omega)) (by first | omega | (simp only; omega)) ?_
    exact ⟨(i + 1, i, M2), ⟨by simp only; omega, hlt, hlt, hM1.trans hM2⟩, by simp only; omega, (Wk.mk' id (by repeat' constructor) (by repeat' constructor) (injOK_id _) rfl rfl rfl)⟩
  · unfold maxLen at hm
    repeat (first | refine VIf.tt ?_ | refine VIf.ff ?_)
    refine VArith.ok (by first | omega | (simp only; omega)) (by first | omega | (simp only; omega)) ?_
    exact ⟨(i + 1, b, M2), ⟨by simp only; omega, hlt, hb, hM1.trans hM2⟩, by simp only; omega, (Wk.mk' id (by repeat' constructor) (by repeat' constructor) (injOK_id _) rfl rfl rfl)⟩
def comA (p q : List Pt) : List Pt := cornA (cornA (crosA p q) p) q
set_option maxRecDepth 20000 in
set_option maxHeartbeats 2000000 in
theorem Common_fn (v w : Value) (ps qs : List Pt) (M : Mem) (hv : Pts M v ps) (hw : Pts M w qs) (hp64 : i64P ps) (hq64 : i64P qs) :
    V.Fn Try.prog 17 [v, w] M fun rs _ => if (validB ps && validB qs) = true then (cornA ps qs = [] ∧ cornA qs ps = [] ∧ comA ps qs = [] ∧ rs = [pt 0 0, .bool false, .int .i64 0]) ∨ ∃ x, (x ∈ cornA ps qs ∨ (cornA ps qs = [] ∧ (x ∈ cornA qs ps ∨ x ∈ comA ps qs))) ∧ rs = [ptv x, .bool true, .int .i64 0] else rs = [pt 0 0, .bool false, .int .i64 1] := by
  refine Fn.of_vc cxOK Try.func17 rfl rfl rfl ?_
  repeat (first | refine VIf.tt ?_ | refine VIf.ff ?_)
  refine VFn.mk _ (Valid_fn v ps M hv hp64) ?_
  rintro rs M1 hM1 rfl
  repeat (first | refine VIf.tt ?_ | refine VIf.ff ?_)
  refine VIf.mk (fun h => ?_) (fun h => ?_)
  · repeat (first | refine VIf.tt ?_ | refine VIf.ff ?_)
    refine VFact.mk ?_ trivial
    rw [(Bool.not_eq_true' _).mp h]; rfl
  have hp := (Bool.not_eq_false' _).mp h
  repeat (first | refine VIf.tt ?_ | refine VIf.ff ?_)
  refine VFn.mk _ (Valid_fn w qs M1 (hw.le hM1) hq64) ?_
  rintro rs M2 hM2 rfl
  repeat (first | refine VIf.tt ?_ | refine VIf.ff ?_)
  refine VIf.mk (fun h => ?_) (fun h => ?_)
  · repeat (first | refine VIf.tt ?_ | refine VIf.ff ?_)
    refine VFact.mk ?_ trivial
    rw [(Bool.not_eq_true' _).mp h, Bool.and_false]; rfl
  have hq := (Bool.not_eq_false' _).mp h
  rw [hp, hq]
  have m2 := hM1.trans hM2
  have hlp := (len_one hp).2
  have hlq := (len_one hq).2
  have hpp := valid_mem hp
  have hqq := valid_mem hq
  have hcl : (crosA ps qs).length ≤ 100000 := by
    have := crosX_len ps qs hlq ps.length
    unfold crosA; omega
  have hcp : ∀ x ∈ crosA ps qs, placeB x = true := fun x hx => shar_place hp x (mem_sharA.2 (.inr (.inr hx)))
  have hdp : ∀ x ∈ cornA (crosA ps qs) ps, placeB x = true := fun x hx => hcp x (mem_cornA.1 hx).1
  have hdl : (cornA (crosA ps qs) ps).length ≤ 100000 := by
    have := List.length_filter_le (hasB ps) (crosA ps qs)
    unfold cornA; omega
  repeat (first | refine VIf.tt ?_ | refine VIf.ff ?_)
  refine VFn.mk _ (cornersC_fn v w ps qs M2 (hv.le m2) (hw.le m2) hq hpp (by omega)) ?_
  rintro rs M3 hM3 ⟨u1, rfl, h1⟩
  have m3 := m2.trans hM3
  repeat (first | refine VIf.tt ?_ | refine VIf.ff ?_)
  refine VFn.mk _ (cornersC_fn w v qs ps M3 (hw.le m3) (hv.le m3) hp hqq (by omega)) ?_
  rintro rs M4 hM4 ⟨u2, rfl, h2⟩
  have m4 := m3.trans hM4
  repeat (first | refine VIf.tt ?_ | refine VIf.ff ?_)
  refine VFn.mk _ (crossings_fn v w ps qs M4 (hv.le m4) (hw.le m4) hp hq) ?_
  rintro rs M5 hM5 ⟨u3, rfl, h3⟩
  have m5 := m4.trans hM5
  repeat (first | refine VIf.tt ?_ | refine VIf.ff ?_)
  refine VFn.mk _ (cornersC_fn u3 v _ ps M5 h3 (hv.le m5) hp hcp hcl) ?_
  rintro rs M6 hM6 ⟨u4, rfl, h4⟩
  have m6 := m5.trans hM6
  repeat (first | refine VIf.tt ?_ | refine VIf.ff ?_)
  refine VFn.mk _ (cornersC_fn u4 w _ qs M6 h4 (hw.le m6) hq hdp hdl) ?_
  rintro rs M7 hM7 ⟨u5, rfl, h5⟩
  obtain ⟨d1, k1, rfl⟩ := h1.shape
  obtain ⟨d2, k2, rfl⟩ := h2.shape
  obtain ⟨d5, k5, rfl⟩ := h5.shape
  have g1 := h1.le (hM4.trans (hM5.trans (hM6.trans hM7)))
  have g2 := h2.le (hM5.trans (hM6.trans hM7))
  repeat (first | refine VIf.tt ?_ | refine VIf.ff ?_)
  refine VCode.loop cxOK Nat (fun i => ⟨[(4, .box 0 0), (7, .clo 39 [] []), (32, .row 1), (33, .v (.int .i64 3)), (34, .v (.int .i64 i))], [(1, some (.row 22 1 3 [.slice d1 (cornA ps qs).length k1, .slice d2 (cornA qs ps).length k2, .slice d5 (cornA (cornA (crosA ps qs) ps) qs).length k5])), (0, some (.box 26 [.v (.int .i64 0), .v (.int .i64 0)]))], 2, M7, 46, ⟨fun _ => none, none, fun _ => none⟩⟩)
    (fun i => i ≤ 3 ∧ (0 < i → cornA ps qs = []) ∧ (1 < i → cornA qs ps = []) ∧ (2 < i → comA ps qs = [])) (fun i => 3 - i) 0 ⟨by decide, fun h => absurd h (by decide), fun h => absurd h (by decide), fun h => absurd h (by decide)⟩ (Wk.mk' id (by repeat' constructor) (by repeat' constructor) (injOK_id _) rfl rfl rfl) ?_
  rintro i ⟨hi, e1, e2, e3⟩ m
  repeat (first | refine VIf.tt ?_ | refine VIf.ff ?_)
  refine VIf.mk (fun hlt => ?_) (fun hge => ?_)
  · have hlt : i < 3 := by have := of_decide_eq_true hlt; omega
    have : i = 0 ∨ i = 1 ∨ i = 2 := by omega
    rcases this with rfl | rfl | rfl
    · repeat (first | refine VIf.tt ?_ | refine VIf.ff ?_)
      refine VIdxR.mk 0 rfl (by decide) ?_
      repeat (first | refine VIf.tt ?_ | refine VIf.ff ?_)
      refine VCells.mk [_] rfl (one_get rfl) ⟨_, rfl, ?_⟩
      repeat (first | refine VIf.tt ?_ | refine VIf.ff ?_)
      refine VIf.mk (fun h => ?_) (fun h => ?_)
      · have h := of_decide_eq_true h
        repeat (first | refine VIf.tt ?_ | refine VIf.ff ?_)
        refine VFn.mk _ (Min_fn _ _ M7 g1 (by omega)) ?_
        rintro rs M8 hM8 ⟨x, hx, rfl⟩
        repeat (first | refine VIf.tt ?_ | refine VIf.ff ?_)
        exact VFact.mk (.inr ⟨x, (.inl hx), rfl⟩) trivial
      · have h := of_decide_eq_false h
        have hz : cornA ps qs = [] := List.length_eq_zero_iff.1 (by first | omega | (unfold comA; omega))
        repeat (first | refine VIf.tt ?_ | refine VIf.ff ?_)
        refine VArith.ok (by first | omega | (simp only; omega)) (by first | omega | (simp only; omega)) ?_
        exact ⟨0 + 1, ⟨by decide, fun _ => hz, fun h => absurd h (by decide), fun h => absurd h (by decide)⟩, by decide, (Wk.mk' id (by repeat' constructor) (by repeat' constructor) (injOK_id _) rfl rfl rfl)⟩
    · repeat (first | refine VIf.tt ?_ | refine VIf.ff ?_)
      refine VIdxR.mk 1 rfl (by decide) ?_
      repeat (first | refine VIf.tt ?_ | refine VIf.ff ?_)
      refine VCells.mk [_] rfl (one_get rfl) ⟨_, rfl, ?_⟩
      repeat (first | refine VIf.tt ?_ | refine VIf.ff ?_)
      refine VIf.mk (fun h => ?_) (fun h => ?_)
      · have h := of_decide_eq_true h
        repeat (first | refine VIf.tt ?_ | refine VIf.ff ?_)
        refine VFn.mk _ (Min_fn _ _ M7 g2 (by omega)) ?_
        rintro rs M8 hM8 ⟨x, hx, rfl⟩
        repeat (first | refine VIf.tt ?_ | refine VIf.ff ?_)
        exact VFact.mk (.inr ⟨x, (.inr ⟨e1 (by decide), .inl hx⟩), rfl⟩) trivial
      · have h := of_decide_eq_false h
        have hz : cornA qs ps = [] := List.length_eq_zero_iff.1 (by first | omega | (unfold comA; omega))
        repeat (first | refine VIf.tt ?_ | refine VIf.ff ?_)
        refine VArith.ok (by first | omega | (simp only; omega)) (by first | omega | (simp only; omega)) ?_
        exact ⟨1 + 1, ⟨by decide, fun _ => e1 (by decide), fun _ => hz, fun h => absurd h (by decide)⟩, by decide, (Wk.mk' id (by repeat' constructor) (by repeat' constructor) (injOK_id _) rfl rfl rfl)⟩
    · repeat (first | refine VIf.tt ?_ | refine VIf.ff ?_)
      refine VIdxR.mk 2 rfl (by decide) ?_
      repeat (first | refine VIf.tt ?_ | refine VIf.ff ?_)
      refine VCells.mk [_] rfl (one_get rfl) ⟨_, rfl, ?_⟩
      repeat (first | refine VIf.tt ?_ | refine VIf.ff ?_)
      refine VIf.mk (fun h => ?_) (fun h => ?_)
      · have h := of_decide_eq_true h
        repeat (first | refine VIf.tt ?_ | refine VIf.ff ?_)
        refine VFn.mk _ (Min_fn _ _ M7 h5 (by omega)) ?_
        rintro rs M8 hM8 ⟨x, hx, rfl⟩
        repeat (first | refine VIf.tt ?_ | refine VIf.ff ?_)
        exact VFact.mk (.inr ⟨x, (.inr ⟨e1 (by decide), .inr hx⟩), rfl⟩) trivial
      · have h := of_decide_eq_false h
        have hz : comA ps qs = [] := List.length_eq_zero_iff.1 (by first | omega | (unfold comA; omega))
        repeat (first | refine VIf.tt ?_ | refine VIf.ff ?_)
        refine VArith.ok (by first | omega | (simp only; omega)) (by first | omega | (simp only; omega)) ?_
        exact ⟨2 + 1, ⟨by decide, fun _ => e1 (by decide), fun _ => e2 (by decide), fun _ => hz⟩, by decide, (Wk.mk' id (by repeat' constructor) (by repeat' constructor) (injOK_id _) rfl rfl rfl)⟩
  · have hge : 3 ≤ i := by have := of_decide_eq_false hge; omega
    repeat (first | refine VIf.tt ?_ | refine VIf.ff ?_)
    exact VFact.mk (.inl ⟨e1 (by omega), e2 (by omega), e3 (by omega), rfl⟩) trivial
end Go.Proofs.Ytlihojecopfgfaa

/- Contracts of package cut with the value given; the examples at the head of the laws. -/
namespace Go.Proofs.Ytlihojecopfgfaa
open Go Go.V Go.RowKit
theorem Cut_is {v : Value} {ps q : List Pt} {A B C : Int} {b : Bool} {M : Mem} (hv : Pts M v ps) (h64 : i64P ps) (hV : validB ps = true) (hH : halfB A B C = true) (hq : arC (cutA ps A B C) = q) (hb : decide (0 < (cutA ps A B C).length) = b) :
    V.Fn Try.prog 12 [v, .agg #[.int .i64 A, .int .i64 B, .int .i64 C]] M fun rs M' => ∃ u, rs = [u, .bool b, .int .i64 0] ∧ Pts M' u q :=
  (Cut_fn v ps A B C M hv h64).mono fun rs M' _ h => by
    rw [hV, hH, if_pos (by rfl), hq, hb] at h; exact h
theorem Cut_err {v : Value} {ps : List Pt} {A B C : Int} {M : Mem} (hv : Pts M v ps) (h64 : i64P ps) (h : (validB ps && halfB A B C) = false) :
    V.Fn Try.prog 12 [v, .agg #[.int .i64 A, .int .i64 B, .int .i64 C]] M fun rs _ => rs = [.slice none 0 0, .bool false, .int .i64 1] :=
  (Cut_fn v ps A B C M hv h64).mono fun rs M' _ r => by
    rw [if_neg (by rw [h]; decide)] at r; exact r
theorem Meet_is {v w : Value} {ps qs q : List Pt} {b : Bool} {M : Mem} (hv : Pts M v ps) (hw : Pts M w qs) (hp : validB ps = true) (hq : validB qs = true) (hr : arC (sharA ps qs) = q) (hb : decide (0 < (sharA ps qs).length) = b) :
    V.Fn Try.prog 14 [v, w] M fun rs M' => ∃ u, rs = [u, .bool b, .int .i64 0] ∧ Pts M' u q :=
  (Meet_fn v w ps qs M hv hw (mem_64 (valid_mem hp)) (mem_64 (valid_mem hq))).mono fun rs M' _ h => by
    rw [hp, hq, if_pos (by rfl), hr, hb] at h; exact h
theorem Meet_err {v w : Value} {ps qs : List Pt} {M : Mem} (hv : Pts M v ps) (hw : Pts M w qs) (h1 : i64P ps) (h2 : i64P qs) (h : (validB ps && validB qs) = false) :
    V.Fn Try.prog 14 [v, w] M fun rs _ => rs = [.slice none 0 0, .bool false, .int .i64 1] :=
  (Meet_fn v w ps qs M hv hw h1 h2).mono fun rs M' _ r => by
    rw [if_neg (by rw [h]; decide)] at r; exact r
theorem Apart_is {v w : Value} {ps qs : List Pt} {b : Bool} {M : Mem} (hv : Pts M v ps) (hw : Pts M w qs) (hp : validB ps = true) (hq : validB qs = true) (hb : (((sharA ps qs).length : Int) == 0) = b) :
    V.Fn Try.prog 18 [v, w] M fun rs _ => rs = [.bool b, .int .i64 0] :=
  (Apart_fn v w ps qs M hv hw (mem_64 (valid_mem hp)) (mem_64 (valid_mem hq))).mono fun rs M' _ h => by
    rw [hp, hq, if_pos (by rfl), hb] at h; exact h
theorem Apart_err {v w : Value} {ps qs : List Pt} {M : Mem} (hv : Pts M v ps) (hw : Pts M w qs) (h1 : i64P ps) (h2 : i64P qs) (h : (validB ps && validB qs) = false) :
    V.Fn Try.prog 18 [v, w] M fun rs _ => rs = [.bool false, .int .i64 1] :=
  (Apart_fn v w ps qs M hv hw h1 h2).mono fun rs M' _ r => by
    rw [if_neg (by rw [h]; decide)] at r; exact r
theorem Within_is {v w : Value} {ps qs : List Pt} {b : Bool} {M : Mem} (hv : Pts M v ps) (hw : Pts M w qs) (hp : validB ps = true) (hq : validB qs = true) (hb : (((cornA ps qs).length : Int) == (ps.length : Int)) = b) :
    V.Fn Try.prog 19 [v, w] M fun rs _ => rs = [.bool b, .int .i64 0] :=
  (WithinC_fn v w ps qs M hv hw (mem_64 (valid_mem hp)) (mem_64 (valid_mem hq))).mono fun rs M' _ h => by
    rw [hp, hq, if_pos (by rfl), hb] at h; exact h
theorem Within_err {v w : Value} {ps qs : List Pt} {M : Mem} (hv : Pts M v ps) (hw : Pts M w qs) (h1 : i64P ps) (h2 : i64P qs) (h : (validB ps && validB qs) = false) :
    V.Fn Try.prog 19 [v, w] M fun rs _ => rs = [.bool false, .int .i64 1] :=
  (WithinC_fn v w ps qs M hv hw h1 h2).mono fun rs M' _ r => by
    rw [if_neg (by rw [h]; decide)] at r; exact r
theorem arC_eq {l p : List Pt} (hne : l ≠ []) (hl : l.length ≤ 4000) (hv : validB p = true) (h1 : ∀ y ∈ l, hasB p y = true) (h2 : ∀ y ∈ p, y ∈ l) : arC l = p := by
  have hh : Hl l p := hl_of_has hv h1 h2
  unfold arC
  rw [if_neg hne, around_eq hh, if_pos ⟨hl, (len_one hv).2⟩]
def triP : List Pt := [(0, 0), (4, 0), (0, 4)]
def sqP (x y n : Int) : List Pt := [(x, y), (x + n, y), (x + n, y + n), (x, y + n)]
def cutP1 : List Pt := [(0, 0), (1, 0), (1, 3), (0, 4)]
def cutP2 : List Pt := [(0, 0), (2, 0), (2, 3), (0, 4)]
def meetP : List Pt := [(3, 0), (4, 0), (3, 1)]
theorem cut_e1 : arC (cutA triP 1 0 1) = cutP1 := arC_eq (by decide +kernel) (by decide +kernel) (by decide) (by decide +kernel) (by decide +kernel)
theorem cut_e2 : arC (cutA triP 2 0 3) = cutP2 := arC_eq (by decide +kernel) (by decide +kernel) (by decide) (by decide +kernel) (by decide +kernel)
theorem meet_e : arC (sharA triP (sqP 3 0 3)) = meetP := arC_eq (by decide +kernel) (by decide +kernel) (by decide) (by decide +kernel) (by decide +kernel)
theorem at04_fn (x y : Int) (M : Mem) : FnP Try.prog 23 [.int .i64 x, .int .i64 y] M [pt x y] := by
  refine Fn.of_vc cxOK Try.func23 rfl rfl rfl ?_
  repeat (first | refine VIf.tt ?_ | refine VIf.ff ?_)
  exact VFact.mk ⟨rfl, rfl⟩ trivial
theorem square04_fn (x y n : Int) (M : Mem) (h : 0 ≤ x ∧ x ≤ 100 ∧ 0 ≤ y ∧ y ≤ 100 ∧ 0 ≤ n ∧ n ≤ 100) : V.Fn Try.prog 24 [.int .i64 x, .int .i64 y, .int .i64 n] M fun rs M' => ∃ u, rs = [u] ∧ Pts M' u (sqP x y n) := by
  refine Fn.of_vc cxOK Try.func24 rfl rfl rfl ?_
  repeat (first | refine VIf.tt ?_ | refine VIf.ff ?_)
  refine VFn.p (at04_fn x y M) ?_
  repeat (first | refine VIf.tt ?_ | refine VIf.ff ?_)
  refine VArith.ok (by first | omega | (simp only; omega)) (by first | omega | (simp only; omega)) ?_
  repeat (first | refine VIf.tt ?_ | refine VIf.ff ?_)
  refine VFn.p (at04_fn (x + n) y M) ?_
  repeat (first | refine VIf.tt ?_ | refine VIf.ff ?_)
  refine VArith.ok (by first | omega | (simp only; omega)) (by first | omega | (simp only; omega)) ?_
  repeat (first | refine VIf.tt ?_ | refine VIf.ff ?_)
  refine VArith.ok (by first | omega | (simp only; omega)) (by first | omega | (simp only; omega)) ?_
  repeat (first | refine VIf.tt ?_ | refine VIf.ff ?_)
  refine VFn.p (at04_fn (x + n) (y + n) M) ?_
  repeat (first | refine VIf.tt ?_ | refine VIf.ff ?_)
  refine VArith.ok (by first | omega | (simp only; omega)) (by first | omega | (simp only; omega)) ?_
  repeat (first | refine VIf.tt ?_ | refine VIf.ff ?_)
  refine VFn.p (at04_fn x (y + n) M) ?_
  repeat (first | refine VIf.tt ?_ | refine VIf.ff ?_)
  refine VFz.mk fun u B M1 hM1 hu => ?_
  repeat (first | refine VIf.tt ?_ | refine VIf.ff ?_)
  exact VFact.mk ⟨u, rfl, hu⟩ trivial
theorem common_e (v w : Value) (M : Mem) (hv : Pts M v (sqP 3 0 3)) (hw : Pts M w triP) : V.Fn Try.prog 17 [v, w] M fun rs _ => rs = [pt 3 0, .bool true, .int .i64 0] :=
  (Common_fn v w _ _ M hv hw (mem_64 (valid_mem (by decide))) (mem_64 (valid_mem (by decide)))).mono fun rs M' _ h => by
    rw [if_pos (by decide)] at h
    have e : cornA (sqP 3 0 3) triP = [(3, 0)] := by decide +kernel
    rw [e] at h
    rcases h with ⟨h, _⟩ | ⟨x, h, rfl⟩
    · cases h
    · rcases h with h | ⟨h, _⟩
      · have : x = (3, 0) := by simpa using h
        subst this; rfl
      · cases h
set_option maxRecDepth 100000 in
set_option maxHeartbeats 4000000 in
theorem head04_fn (M : Mem) : V.Fn Try.prog 9 [] M fun rs _ => rs = [.bool true] := by
  refine Fn.of_vc cxOK Try.func9 rfl rfl rfl ?_
  repeat (first | refine VIf.tt ?_ | refine VIf.ff ?_)
  refine VFn.p (at04_fn 0 0 M) ?_
  repeat (first | refine VIf.tt ?_ | refine VIf.ff ?_)
  refine VFn.p (at04_fn 4 0 M) ?_
  repeat (first | refine VIf.tt ?_ | refine VIf.ff ?_)
  refine VFn.p (at04_fn 0 4 M) ?_
  repeat (first | refine VIf.tt ?_ | refine VIf.ff ?_)
  refine VFz.mk fun p _ M1 hM1 hp => ?_
  have hp : Pts M1 p triP := hp
  have p64 : i64P triP := mem_64 (valid_mem (by decide))
  repeat (first | refine VIf.tt ?_ | refine VIf.ff ?_)
  refine VFn.mk _ (Cut_is (A := 1) (B := 0) (C := 1) hp p64 (by decide) (by decide) cut_e1 (b := true) (by decide +kernel)) ?_
  rintro rs M2 hM2 ⟨a, rfl, ha⟩
  repeat (first | refine VIf.tt ?_ | refine VIf.ff ?_)
  refine VFn.mk _ (Cut_is (A := 2) (B := 0) (C := 3) (hp.le hM2) p64 (by decide) (by decide) cut_e2 (b := true) (by decide +kernel)) ?_
  rintro rs M3 hM3 ⟨b, rfl, hb⟩
  have m3 := hM2.trans hM3
  repeat (first | refine VIf.tt ?_ | refine VIf.ff ?_)
  refine VFn.mk _ (Cut_is (A := 1) (B := 0) (C := -1) (hp.le m3) p64 (by decide) (by decide) rfl (b := false) (by decide +kernel)) ?_
  rintro rs M4 hM4 ⟨x4, rfl, _⟩
  have m4 := m3.trans hM4
  repeat (first | refine VIf.tt ?_ | refine VIf.ff ?_)
  refine VFn.mk _ (square04_fn 3 0 3 M4 (by decide)) ?_
  rintro rs M5 hM5 ⟨s1, rfl, hs1⟩
  have m5 := m4.trans hM5
  repeat (first | refine VIf.tt ?_ | refine VIf.ff ?_)
  refine VFn.mk _ (Meet_is (hp.le m5) hs1 (by decide) (by decide) meet_e (b := true) (by decide +kernel)) ?_
  rintro rs M6 hM6 ⟨mm, rfl, hm⟩
  have m6 := m5.trans hM6
  repeat (first | refine VIf.tt ?_ | refine VIf.ff ?_)
  refine VFn.mk _ (square04_fn 3 2 3 M6 (by decide)) ?_
  rintro rs M7 hM7 ⟨s2, rfl, hs2⟩
  have m7 := m6.trans hM7
  repeat (first | refine VIf.tt ?_ | refine VIf.ff ?_)
  refine VFn.mk _ (Apart_is (hp.le m7) hs2 (by decide) (by decide) (b := true) (by decide +kernel)) ?_
  rintro rs M8 hM8 rfl
  have m8 := m7.trans hM8
  repeat (first | refine VIf.tt ?_ | refine VIf.ff ?_)
  refine VFn.mk _ (square04_fn 3 0 3 M8 (by decide)) ?_
  rintro rs M9 hM9 ⟨s3, rfl, hs3⟩
  have m9 := m8.trans hM9
  repeat (first | refine VIf.tt ?_ | refine VIf.ff ?_)
  refine VFn.mk _ (common_e s3 p M9 hs3 (hp.le m9)) ?_
  rintro rs M10 hM10 rfl
  have m10 := m9.trans hM10
  repeat (first | refine VIf.tt ?_ | refine VIf.ff ?_)
  refine VFn.mk _ (Cut_err (A := 0) (B := 0) (C := 1) (hp.le m10) p64 (by decide)) ?_
  rintro rs M11 hM11 rfl
  have m11 := m10.trans hM11
  repeat (first | refine VIf.tt ?_ | refine VIf.ff ?_)
  refine VFn.p (at04_fn 0 0 M11) ?_
  repeat (first | refine VIf.tt ?_ | refine VIf.ff ?_)
  refine VFn.p (at04_fn 1 0 M11) ?_
  repeat (first | refine VIf.tt ?_ | refine VIf.ff ?_)
  refine VFn.p (at04_fn 1 3 M11) ?_
  repeat (first | refine VIf.tt ?_ | refine VIf.ff ?_)
  refine VFn.p (at04_fn 0 4 M11) ?_
  repeat (first | refine VIf.tt ?_ | refine VIf.ff ?_)
  refine VFz.mk fun y1 _ M12 hM12 hy1 => ?_
  have hy1 : Pts M12 y1 cutP1 := hy1
  have n12 : M2.le M12 := hM3.trans (hM4.trans (hM5.trans (hM6.trans (hM7.trans (hM8.trans (hM9.trans (hM10.trans (hM11.trans (hM12)))))))))
  repeat (first | refine VIf.tt ?_ | refine VIf.ff ?_)
  refine VFn.p (Same_fn a y1 cutP1 cutP1 M12 (ha.le n12) hy1) ?_
  repeat (first | refine VIf.tt ?_ | refine VIf.ff ?_)
  refine VFn.p (at04_fn 0 0 M12) ?_
  repeat (first | refine VIf.tt ?_ | refine VIf.ff ?_)
  refine VFn.p (at04_fn 2 0 M12) ?_
  repeat (first | refine VIf.tt ?_ | refine VIf.ff ?_)
  refine VFn.p (at04_fn 2 3 M12) ?_
  repeat (first | refine VIf.tt ?_ | refine VIf.ff ?_)
  refine VFn.p (at04_fn 0 4 M12) ?_
  repeat (first | refine VIf.tt ?_ | refine VIf.ff ?_)
  refine VFz.mk fun y2 _ M13 hM13 hy2 => ?_
  have hy2 : Pts M13 y2 cutP2 := hy2
  have n13 : M3.le M13 := hM4.trans (hM5.trans (hM6.trans (hM7.trans (hM8.trans (hM9.trans (hM10.trans (hM11.trans (hM12.trans (hM13)))))))))
  repeat (first | refine VIf.tt ?_ | refine VIf.ff ?_)
  refine VFn.p (Same_fn b y2 cutP2 cutP2 M13 (hb.le n13) hy2) ?_
  repeat (first | refine VIf.tt ?_ | refine VIf.ff ?_)
  refine VDraw.go (by kernel_rfl) ?_
  repeat (first | refine VIf.tt ?_ | refine VIf.ff ?_)
  refine VFn.p (at04_fn 3 0 M13) ?_
  repeat (first | refine VIf.tt ?_ | refine VIf.ff ?_)
  refine VFn.p (at04_fn 4 0 M13) ?_
  repeat (first | refine VIf.tt ?_ | refine VIf.ff ?_)
  refine VFn.p (at04_fn 3 1 M13) ?_
  repeat (first | refine VIf.tt ?_ | refine VIf.ff ?_)
  refine VFz.mk fun y3 _ M14 hM14 hy3 => ?_
  have hy3 : Pts M14 y3 meetP := hy3
  have n14 : M6.le M14 := hM7.trans (hM8.trans (hM9.trans (hM10.trans (hM11.trans (hM12.trans (hM13.trans (hM14)))))))
  repeat (first | refine VIf.tt ?_ | refine VIf.ff ?_)
  refine VFn.p (Same_fn mm y3 meetP meetP M14 (hm.le n14) hy3) ?_
  repeat (first | refine VIf.tt ?_ | refine VIf.ff ?_)
  refine VFn.p (at04_fn 3 0 M14) ?_
  repeat (first | refine VIf.tt ?_ | refine VIf.ff ?_)
  refine VFact.mk ?_ trivial
  exact congrArg (fun b => [Value.bool b]) (by decide)
end Go.Proofs.Ytlihojecopfgfaa

/- Contracts of the laws of package cut: few, Over, abs; numbers whose sign is turned. -/
namespace Go.Proofs.Ytlihojecopfgfaa
open Go Go.V Go.RowKit
theorem few04_fn (a b : Option Addr) (n c m d : Nat) (M : Mem) : FnP Try.prog 10 [.slice a n c, .slice b m d] M [.bool (decide (n ≤ 80 ∧ m ≤ 80))] := by
  refine Fn.of_vc cxOK Try.func10 rfl rfl rfl ?_
  repeat (first | refine VIf.tt ?_ | refine VIf.ff ?_)
  refine VIf.mk (fun h => ?_) (fun h => ?_)
  · have h := of_decide_eq_true h
    repeat (first | refine VIf.tt ?_ | refine VIf.ff ?_)
    refine VFact.mk ⟨?_, rfl⟩ trivial
    refine congrArg (fun b => [Value.bool b]) (decide_eq_decide.2 ?_)
    omega
  · have h := of_decide_eq_false h
    repeat (first | refine VIf.tt ?_ | refine VIf.ff ?_)
    refine VFact.mk ⟨?_, rfl⟩ trivial
    rw [decide_eq_false (by omega)]
theorem Over04_fn (A B C : Int) (x : Pt) (M : Mem) (h : halfB A B C = true) (hx : placeB x = true) : FnP Try.prog 13 [.agg #[.int .i64 A, .int .i64 B, .int .i64 C], ptv x] M [.int .i64 (ovr A B C x)] := by
  have hp := place_C hx
  unfold isC at hp
  simp only [halfB, Bool.and_eq_true, decide_eq_true_eq] at h
  have e1 := mul_bd (a := A) (b := x.1) 1000000 500000 (by omega) (by omega) (by omega) (by omega) (by omega) (by omega)
  have e2 := mul_bd (a := B) (b := x.2) 1000000 500000 (by omega) (by omega) (by omega) (by omega) (by omega) (by omega)
  refine Fn.of_vc cxOK Try.func13 rfl rfl rfl ?_
  repeat (first | refine VIf.tt ?_ | refine VIf.ff ?_)
  refine VArith.ok (by first | omega | (simp only; omega)) (by first | omega | (simp only; omega)) ?_
  repeat (first | refine VIf.tt ?_ | refine VIf.ff ?_)
  refine VArith.ok (by first | omega | (simp only; omega)) (by first | omega | (simp only; omega)) ?_
  repeat (first | refine VIf.tt ?_ | refine VIf.ff ?_)
  refine VArith.ok (by first | omega | (simp only; omega)) (by first | omega | (simp only; omega)) ?_
  repeat (first | refine VIf.tt ?_ | refine VIf.ff ?_)
  refine VArith.ok (by first | omega | (simp only; omega)) (by first | omega | (simp only; omega)) ?_
  repeat (first | refine VIf.tt ?_ | refine VIf.ff ?_)
  exact VFact.mk ⟨rfl, rfl⟩ trivial
theorem abs04_fn (n : Int) (M : Mem) (h : -1000000000000 ≤ n ∧ n ≤ 1000000000000) : FnP Try.prog 21 [.int .i64 n] M [.int .i64 (max n (-n))] := by
  refine Fn.of_vc cxOK Try.func21 rfl rfl rfl ?_
  repeat (first | refine VIf.tt ?_ | refine VIf.ff ?_)
  refine VArith.ok (by first | omega | (simp only; omega)) (by first | omega | (simp only; omega)) ?_
  repeat (first | refine VIf.tt ?_ | refine VIf.ff ?_)
  exact VFact.mk ⟨rfl, rfl⟩ trivial
theorem neg_any {z : Int} {K : Int → Prop} (h : i64r z) (hK : ∀ z', (z' = -z ∨ (z = -9223372036854775808 ∧ z' = z)) → K z') : VArith (-9223372036854775808) 9223372036854775807 .i64 (-z) K := by
  have wmin : IntKind.wrap .i64 (- -9223372036854775808) = -9223372036854775808 := by decide
  unfold i64r at h
  by_cases hz : z = -9223372036854775808
  · repeat (first | refine VIf.tt ?_ | refine VIf.ff ?_)
    refine VArith.wr ?_
    rw [hz, wmin]
    exact hK _ (.inr ⟨hz, hz.symm⟩)
  · repeat (first | refine VIf.tt ?_ | refine VIf.ff ?_)
    exact VArith.ok (by omega) (by omega) (hK _ (.inl rfl))
theorem half_neg {A B C A' B' C' : Int} (hA : A' = -A ∨ (A = -9223372036854775808 ∧ A' = A)) (hB : B' = -B ∨ (B = -9223372036854775808 ∧ B' = B)) (hC : C' = -C ∨ (C = -9223372036854775808 ∧ C' = C)) :
    halfB A' B' C' = halfB A B C ∧ (halfB A B C = true → A' = -A ∧ B' = -B ∧ C' = -C) := by
  have e : ∀ {A B C : Int}, halfB A B C = decide ((-1000000 ≤ A ∧ A ≤ 1000000) ∧ (-1000000 ≤ B ∧ B ≤ 1000000) ∧ (-1000000000000 ≤ C ∧ C ≤ 1000000000000) ∧ ¬ (A = 0 ∧ B = 0)) := fun {A B C} => by
    rw [Bool.eq_iff_iff]
    simp only [halfB, Bool.and_eq_true, Bool.not_eq_true', Bool.and_eq_false_iff, decide_eq_true_eq, decide_eq_false_iff_not]
    omega
  rw [e, e]
  refine ⟨decide_eq_decide.2 (by omega), fun h => ?_⟩
  have h := of_decide_eq_true h
  omega
theorem half_ne {A B C : Int} (h : halfB A B C = true) : ¬ (A = 0 ∧ B = 0) := by
  simp only [halfB, Bool.and_eq_true, Bool.not_eq_true', Bool.and_eq_false_iff, decide_eq_true_eq, decide_eq_false_iff_not] at h
  omega
/-- What Has says. -/
theorem HasE_fn {v : Value} {ps : List Pt} {x : Pt} {M : Mem} (hv : Pts M v ps) (h64 : i64P ps) (hx : i64r x.1 ∧ i64r x.2) : V.Fn Try.prog 11 [v, ptv x] M fun rs _ => rs = [.bool (hasE ps x).1, .int .i64 (hasE ps x).2] := hasB_is hv h64 hx rfl
theorem arC_64 {l : List Pt} (hP : ∀ x ∈ l, placeB x = true) : i64P (arC l) := by
  by_cases e : l = []
  · subst e; exact fun i hi => by cases hi
  · exact mem_64 (valid_mem (arC_valid e hP))
theorem hasE_bad {ps : List Pt} {x : Pt} (h : (validB ps && placeB x) = false) : hasE ps x = (false, 1) := by
  unfold hasE; rw [if_neg (by rw [h]; decide)]
theorem cut_side {ps : List Pt} {A B C : Int} {x : Pt} (hV : validB ps = true) (hH : halfB A B C = true) (hx : placeB x = true) (hin : hasB ps x = true) (ho : ovr A B C x ≤ 0) : hasE (arC (cutA ps A B C)) x = (true, 0) := by
  have hl := cut_in hV (half_ne hH) hin ho
  have hP := cut_place hV A B C
  exact hasE_is (arC_valid (lin_ne hl) hP) hx (arC_has hP hl)
end Go.Proofs.Ytlihojecopfgfaa

/- CutMeets: each place that two polygons have is in what they have in common; this is the same whoever is the first one, and within 1 of the rectangles of both. No conditions beyond the statement's own. -/
namespace Go.Proofs.Ytlihojecopfgfaa.cutMeets
open Go Go.V Go.RowKit
theorem shar_len (p q : List Pt) : (sharA p q).length = (sharA q p).length := by
  have : (crosA p q).length = (crosA q p).length := by
    rw [crosA_len, crosA_len, sum_swap]
    congr 1
    apply List.map_congr_left
    intro j _
    congr 1
    apply List.map_congr_left
    intro i _
    rw [crossIJ_comm]
  unfold sharA
  simp only [List.length_append]
  omega
theorem box_all {p : List Pt} (hp : validB p = true) : ∀ x ∈ p, (boxLo p).1 ≤ x.1 ∧ x.1 ≤ (boxHi p).1 ∧ (boxLo p).2 ≤ x.2 ∧ x.2 ≤ (boxHi p).2 := fun x hx => by
  have h := b8_has (len_one hp).1 x hx
  exact ⟨h.1, h.2.1, h.2.2.1, h.2.2.2.1⟩
theorem box_bd {p : List Pt} (hp : validB p = true) : (-500000 ≤ (boxLo p).1 ∧ (boxLo p).1 ≤ 500000) ∧ (-500000 ≤ (boxLo p).2 ∧ (boxLo p).2 ≤ 500000) ∧ (-500000 ≤ (boxHi p).1 ∧ (boxHi p).1 ≤ 500000) ∧ -500000 ≤ (boxHi p).2 ∧ (boxHi p).2 ≤ 500000 := by
  obtain ⟨y1, m1, e1⟩ := (lo_spec fX (len_one hp).1).2
  obtain ⟨y2, m2, e2⟩ := (hi_spec fX (len_one hp).1).2
  obtain ⟨y3, m3, e3⟩ := (lo_spec fY (len_one hp).1).2
  obtain ⟨y4, m4, e4⟩ := (hi_spec fY (len_one hp).1).2
  have b1 := place_box.1 (valid_mem hp y1 m1)
  have b2 := place_box.1 (valid_mem hp y2 m2)
  have b3 := place_box.1 (valid_mem hp y3 m3)
  have b4 := place_box.1 (valid_mem hp y4 m4)
  have f1 : (boxLo p).1 = y1.1 := e1
  have f2 : (boxHi p).1 = y2.1 := e2
  have f3 : (boxLo p).2 = y3.2 := e3
  have f4 : (boxHi p).2 = y4.2 := e4
  omega
theorem meet_box {p q : List Pt} (hp : validB p = true) (hq : validB q = true) : (∀ y ∈ arC (sharA p q), (boxLo p).1 ≤ y.1 ∧ y.1 ≤ (boxHi p).1 ∧ (boxLo p).2 ≤ y.2 ∧ y.2 ≤ (boxHi p).2) ∧ ∀ y ∈ arC (sharA p q), (boxLo q).1 ≤ y.1 ∧ y.1 ≤ (boxHi q).1 ∧ (boxLo q).2 ≤ y.2 ∧ y.2 ≤ (boxHi q).2 :=
  ⟨arC_box (shar_place hp) fun x hx => shar_box hp (box_all hp) x (.inl hx), arC_box (shar_place hp) fun x hx => shar_box hq (box_all hq) x (.inr hx)⟩
theorem meet_side {p q : List Pt} {x : Pt} (hp : validB p = true) (hq : validB q = true) (hx : placeB x = true) (h1 : hasB p x = true) (h2 : hasB q x = true) : hasE (arC (sharA p q)) x = (true, 0) ∧ 0 < (sharA p q).length := by
  have hl := shar_in hp hq h1 h2
  exact ⟨hasE_is (arC_valid (lin_ne hl) (shar_place hp)) hx (arC_has (shar_place hp) hl), ne_len (lin_ne hl)⟩
set_option maxRecDepth 20000 in
set_option maxHeartbeats 4000000 in
theorem law_gen (v w : Value) (ps qs : List Pt) (x : Pt) (M : Mem) (hv : Pts M v ps) (h64 : i64P ps) (hw : Pts M w qs) (k64 : i64P qs) (hx : i64r x.1 ∧ i64r x.2) :
    V.Fn Try.prog 4 [v, w, pt x.1 x.2] M fun rs _ => rs = [.bool true] := by
  obtain ⟨ad, c, rfl⟩ := hv.shape
  obtain ⟨bd, bc, rfl⟩ := hw.shape
  refine Fn.of_vc cxOK Try.func4 rfl rfl rfl ?_
  repeat (first | refine VIf.tt ?_ | refine VIf.ff ?_)
  refine VFn.mk _ (head04_fn M) ?_
  rintro rs M1 hM1 rfl
  repeat (first | refine VIf.tt ?_ | refine VIf.ff ?_)
  refine VFn.p (few04_fn ad bd ps.length c qs.length bc M1) ?_
  repeat (first | refine VIf.tt ?_ | refine VIf.ff ?_)
  refine VIf.mk (fun _ => ?_) (fun _ => ?_)
  · repeat (first | refine VIf.tt ?_ | refine VIf.ff ?_)
    exact VFact.mk rfl trivial
  by_cases hg : (validB ps && validB qs) = true
  rotate_left
  · have hg : (validB ps && validB qs) = false := by simpa using hg
    repeat (first | refine VIf.tt ?_ | refine VIf.ff ?_)
    refine VFn.mk _ (Meet_err (hv.le hM1) (hw.le hM1) h64 k64 hg) ?_
    rintro rs M2 hM2 rfl
    have m2 := hM1.trans hM2
    repeat (first | refine VIf.tt ?_ | refine VIf.ff ?_)
    refine VFn.mk _ (Meet_err (hw.le m2) (hv.le m2) k64 h64 (by rw [Bool.and_comm]; exact hg)) ?_
    rintro rs M3 hM3 rfl
    repeat (first | refine VIf.tt ?_ | refine VIf.ff ?_)
    exact VFact.mk rfl trivial
  obtain ⟨hV, hQ⟩ := Bool.and_eq_true _ _ ▸ hg
  obtain ⟨so, hso⟩ : ∃ b, decide (0 < (sharA ps qs).length) = b := ⟨_, rfl⟩
  have hso2 : decide (0 < (sharA qs ps).length) = so := by rw [shar_len]; exact hso
  obtain ⟨bxp, bxq⟩ := meet_box hV hQ
  have hside := fun h1 h2 h3 => meet_side (x := x) hV hQ h1 h2 h3
  have m64 := arC_64 (shar_place (p := ps) (q := qs) hV)
  have hsm := shar_same qs ps
  have hml : (arC (sharA ps qs)).length ≤ 64 := by
    by_cases e : sharA ps qs = []
    · rw [e]; unfold arC; rw [if_pos rfl]; decide
    · exact (len_one (arC_valid e (shar_place hV))).2
  repeat (first | refine VIf.tt ?_ | refine VIf.ff ?_)
  refine VFn.mk _ (Meet_is (hv.le hM1) (hw.le hM1) hV hQ rfl hso) ?_
  rintro rs M2 hM2 ⟨u, rfl, hu⟩
  have m2 := hM1.trans hM2
  repeat (first | refine VIf.tt ?_ | refine VIf.ff ?_)
  refine VFn.mk _ (Meet_is (hw.le m2) (hv.le m2) hQ hV hsm hso2) ?_
  rintro rs M3 hM3 ⟨u2, rfl, hu2⟩
  have m3 := m2.trans hM3
  have hu : Pts M3 u (arC (sharA ps qs)) := hu.le hM3
  generalize arC (sharA ps qs) = mm at *
  obtain ⟨ud, uc, rfl⟩ := hu.shape
  obtain ⟨_, _, hrdu⟩ := hu.cellsOf
  repeat (first | refine VIf.tt ?_ | refine VIf.ff ?_)
  refine VIf.mk (fun e => ?_) (fun _ => ?_)
  · exfalso
    cases so <;> cases e
  have F := Same_fn _ u2 mm mm M3 hu hu2
  rw [decide_eq_true rfl] at F
  repeat (first | refine VIf.tt ?_ | refine VIf.ff ?_)
  refine VFn.p F ?_
  have b1 := box_bd hV
  have b2 := box_bd hQ
  repeat (first | refine VIf.tt ?_ | refine VIf.ff ?_)
  refine VCode.loop cxOK (Nat × Mem) (fun s => ⟨[(0, .v (.slice ad ps.length c)), (1, .v (.slice bd qs.length bc)), (5, .box 0 0), (7, .v (.bool true)), (8, .v (.slice ud mm.length uc)), (9, .v (.bool so)), (73, .row 1), (74, .v (.int .i64 2)), (75, .v (.int .i64 s.1))], [(1, some (.row 22 1 2 [.slice ad ps.length c, .slice bd qs.length bc])), (0, some (.box 26 [.v (.int .i64 x.1), .v (.int .i64 x.2)]))], 2, s.2, 172, ⟨fun _ => none, none, fun _ => none⟩⟩)
    (fun s => s.1 ≤ 2 ∧ M3.le s.2) (fun s => 2 - s.1) (0, M3) ⟨Nat.zero_le _, Mem.le_refl _⟩ (Wk.mk' id (by repeat' constructor) (by repeat' constructor) (injOK_id _) rfl rfl rfl) ?_
  rintro ⟨i, M4⟩ ⟨hi, hM4⟩ m
  simp only at hi hM4
  repeat (first | refine VIf.tt ?_ | refine VIf.ff ?_)
  refine VIf.mk (fun hlt => ?_) (fun hge => ?_)
  · have hlt : i < 2 := by have := of_decide_eq_true hlt; simp only at this; omega
    obtain ⟨lv, ls, hrow, hlv, hlV, hbx, hb⟩ : ∃ (lv : Value) (ls : List Pt), ([Value.slice ad ps.length c, Value.slice bd qs.length bc] : List Value)[i * 1 + 0]? = some lv ∧ Pts M lv ls ∧ validB ls = true ∧ (∀ y ∈ mm, (boxLo ls).1 ≤ y.1 ∧ y.1 ≤ (boxHi ls).1 ∧ (boxLo ls).2 ≤ y.2 ∧ y.2 ≤ (boxHi ls).2) ∧ ((-500000 ≤ (boxLo ls).1 ∧ (boxLo ls).1 ≤ 500000) ∧ (-500000 ≤ (boxLo ls).2 ∧ (boxLo ls).2 ≤ 500000) ∧ (-500000 ≤ (boxHi ls).1 ∧ (boxHi ls).1 ≤ 500000) ∧ -500000 ≤ (boxHi ls).2 ∧ (boxHi ls).2 ≤ 500000) := by
      have : i = 0 ∨ i = 1 := by omega
      rcases this with rfl | rfl
      · exact ⟨_, ps, rfl, hv, hV, bxp, b1⟩
      · exact ⟨_, qs, rfl, hw, hQ, bxq, b2⟩
    have m4 := m3.trans hM4
    repeat (first | refine VIf.tt ?_ | refine VIf.ff ?_)
    refine VIdxR.mk i rfl hlt ?_
    repeat (first | refine VIf.tt ?_ | refine VIf.ff ?_)
    refine VCells.mk [lv] rfl (one_get hrow) ⟨_, rfl, ?_⟩
    repeat (first | refine VIf.tt ?_ | refine VIf.ff ?_)
    refine VFn.mk _ (Box_is (hlv.le m4) (mem_64 (valid_mem hlV)) hlV rfl rfl) ?_
    rintro rs M5 hM5 rfl
    repeat (first | refine VIf.tt ?_ | refine VIf.ff ?_)
    refine VCode.loop cxOK (Nat × Bool) (fun s => ⟨[(0, .v (.slice ad ps.length c)), (1, .v (.slice bd qs.length bc)), (5, .box 0 0), (7, .v (.bool s.2)), (8, .v (.slice ud mm.length uc)), (9, .v (.bool so)), (16, .box 2 0), (17, .box 3 0), (73, .row 1), (74, .v (.int .i64 2)), (75, .v (.int .i64 i)), (87, .v (.slice ud mm.length uc)), (88, .v (.int .i64 mm.length)), (89, .v (.int .i64 s.1))], [(3, some (.box 26 [.v (.int .i64 (boxHi ls).1), .v (.int .i64 (boxHi ls).2)])), (2, some (.box 26 [.v (.int .i64 (boxLo ls).1), .v (.int .i64 (boxLo ls).2)])), (1, some (.row 22 1 2 [.slice ad ps.length c, .slice bd qs.length bc])), (0, some (.box 26 [.v (.int .i64 x.1), .v (.int .i64 x.2)]))], 4, M5, 172, ⟨fun _ => none, none, fun _ => none⟩⟩)
      (fun s => s.1 ≤ mm.length ∧ s.2 = true) (fun s => mm.length - s.1) (0, true) ⟨Nat.zero_le _, rfl⟩ (Wk.mk' id (by repeat' constructor) (by repeat' constructor) (injOK_id _) rfl rfl rfl) ?_
    rintro ⟨j, up⟩ ⟨hj, hup⟩ m2
    simp only at hj hup
    subst hup
    repeat (first | refine VIf.tt ?_ | refine VIf.ff ?_)
    refine VIf.mk (fun hlj => ?_) (fun hgj => ?_)
    · have hlj : j < mm.length := by have := of_decide_eq_true hlj; simp only at this; omega
      obtain ⟨ad', rfl, hp⟩ := hrdu M5 (hM4.trans hM5) j hlj
      have hy := hbx _ (gp_mem hlj)
      repeat (first | refine VIf.tt ?_ | refine VIf.ff ?_)
      refine VIdx.mk ad' j rfl rfl hlj ?_
      repeat (first | refine VIf.tt ?_ | refine VIf.ff ?_)
      refine VReads.mk [.int .i64 (gp mm j).1, .int .i64 (gp mm j).2] rfl hp ?_
      repeat (first | refine VIf.tt ?_ | refine VIf.ff ?_)
      refine VArith.ok (by first | omega | (simp only; omega)) (by first | omega | (simp only; omega)) ?_
      repeat (first | refine VIf.tt ?_ | refine VIf.ff ?_)
      refine VIf.mk (fun _ => ?_) (fun e => absurd (of_decide_eq_false e) (by omega))
      repeat (first | refine VIf.tt ?_ | refine VIf.ff ?_)
      refine VArith.ok (by first | omega | (simp only; omega)) (by first | omega | (simp only; omega)) ?_
      repeat (first | refine VIf.tt ?_ | refine VIf.ff ?_)
      refine VIf.mk (fun _ => ?_) (fun e => absurd (of_decide_eq_false e) (by omega))
      repeat (first | refine VIf.tt ?_ | refine VIf.ff ?_)
      refine VArith.ok (by first | omega | (simp only; omega)) (by first | omega | (simp only; omega)) ?_
      repeat (first | refine VIf.tt ?_ | refine VIf.ff ?_)
      refine VIf.mk (fun _ => ?_) (fun e => absurd (of_decide_eq_false e) (by omega))
      repeat (first | refine VIf.tt ?_ | refine VIf.ff ?_)
      refine VArith.ok (by first | omega | (simp only; omega)) (by first | omega | (simp only; omega)) ?_
      repeat (first | refine VIf.tt ?_ | refine VIf.ff ?_)
      refine VArith.ok (by first | omega | (simp only; omega)) (by first | omega | (simp only; omega)) ?_
      exact ⟨(j + 1, decide ((gp mm j).2 ≤ (boxHi ls).2 + 1)), ⟨hlj, decide_eq_true (by omega)⟩, by simp only; omega, (Wk.mk' id (by repeat' constructor) (by repeat' constructor) (injOK_id _) rfl rfl rfl)⟩
    · repeat (first | refine VIf.tt ?_ | refine VIf.ff ?_)
      refine VArith.ok (by first | omega | (simp only; omega)) (by first | omega | (simp only; omega)) ?_
      exact ⟨(i + 1, M5), ⟨hlt, hM4.trans hM5⟩, by simp only; omega, (Wk.mk' id (by repeat' constructor) (by repeat' constructor) (injOK_id _) rfl rfl rfl)⟩
  · have m4 := m3.trans hM4
    by_cases hpl : placeB x = true
    rotate_left
    · have hpl : placeB x = false := by simpa using hpl
      repeat (first | refine VIf.tt ?_ | refine VIf.ff ?_)
      refine VFn.mk _ (hasB_is (x := x) (hv.le m4) h64 hx (hasE_bad (by rw [hpl, Bool.and_false]))) ?_
      rintro rs M5 hM5 rfl
      repeat (first | refine VIf.tt ?_ | refine VIf.ff ?_)
      refine VFn.mk _ (hasB_is (x := x) (hw.le (m4.trans hM5)) k64 hx (hasE_bad (by rw [hpl, Bool.and_false]))) ?_
      rintro rs M6 hM6 rfl
      repeat (first | refine VIf.tt ?_ | refine VIf.ff ?_)
      exact VFact.mk rfl trivial
    repeat (first | refine VIf.tt ?_ | refine VIf.ff ?_)
    refine VFn.mk _ (hasB_is (x := x) (hv.le m4) h64 hx (hasE_is hV hpl rfl)) ?_
    rintro rs M5 hM5 rfl
    repeat (first | refine VIf.tt ?_ | refine VIf.ff ?_)
    refine VFn.mk _ (hasB_is (x := x) (hw.le (m4.trans hM5)) k64 hx (hasE_is hQ hpl rfl)) ?_
    rintro rs M6 hM6 rfl
    repeat (first | refine VIf.tt ?_ | refine VIf.ff ?_)
    refine VIf.mk (fun c1 => ?_) (fun c1 => ?_)
    · repeat (first | refine VIf.tt ?_ | refine VIf.ff ?_)
      exact VFact.mk rfl trivial
    repeat (first | refine VIf.tt ?_ | refine VIf.ff ?_)
    refine VIf.mk (fun c2 => ?_) (fun c2 => ?_)
    · repeat (first | refine VIf.tt ?_ | refine VIf.ff ?_)
      exact VFact.mk rfl trivial
    obtain ⟨hin, hpos⟩ := hside hpl ((Bool.not_eq_false' _).mp c1) ((Bool.not_eq_false' _).mp c2)
    rw [decide_eq_true hpos] at hso
    subst hso
    repeat (first | refine VIf.tt ?_ | refine VIf.ff ?_)
    refine VFn.mk _ (hasB_is (x := x) (hu.le (hM4.trans (hM5.trans hM6))) m64 hx hin) ?_
    rintro rs M7 hM7 rfl
    repeat (first | refine VIf.tt ?_ | refine VIf.ff ?_)
    exact VFact.mk rfl trivial
theorem law_fn (v w : Value) (ps qs : List Pt) (x y : Int) (M : Mem) (hv : Pts M v ps) (h64 : i64P ps) (hw : Pts M w qs) (k64 : i64P qs) (hx : i64r x) (hy : i64r y) :
    V.Fn Try.prog 4 [v, w, .agg #[.int .i64 x, .int .i64 y]] M fun rs _ => rs = [.bool true] := law_gen v w ps qs (x, y) M hv h64 hw k64 ⟨hx, hy⟩
end Go.Proofs.Ytlihojecopfgfaa.cutMeets

namespace Go.Proofs.Ytlihojecopfgfaa.cutMeets
open Go Go.V Go.RowKit Go.ChangeShapes Go.WideShapes Go.ChangeAt
set_option linter.unusedVariables false
set_option maxRecDepth 100000 in
theorem lifted (os : Os) (started : os.Started) (H : Type) (enc : TypeId × Value → H) :
    ReturnsInHanded {} Try.checked os 4 .any (Rows.cutMeetsSpec.pre6 enc Try.prog Try.f4 Rows.cutMeetsRow.domain false) (Rows.cutMeetsSpec.post enc Try.prog Try.f4 false true false false) := by
  refine returnsInHanded_of_change (C := Try.checked) own started (by kernel_rfl) Try.func4
    (ChangeSpec.witness6 (enc := enc) (C := Try.checked) false ⟨#[], #[.slice none 0 0, .slice none 0 0, .agg #[.int .i64 0, .int .i64 0]], []⟩ 8 (by kernel_rfl) (by kernel_rfl) (by kernel_rfl) (by kernel_rfl)) ?_
  intro W base args ds gs before hval0 hW hcnd _
  have hval : ∀ (j : Nat) t v, Try.f4.params[j]? = some t → args[j]? = some v → Value.okWide Try.prog W .any base t v := hval0
  have hW' := hW
  obtain ⟨p, q, hA0, hV, rfl, hfz, hnd⟩ := hW
  have hA : DataW.TrodAll enc Try.prog W 0 (fun _ => true) true Try.f4.params.toList args.toList ds p := hA0
  have hA1 := hA
  rw [Try.params4] at hA hval
  obtain ⟨v0, vs0, d0, ds0, p0, q0, hargs, rfl, rfl, h0, r0⟩ := trodAll_cons hA
  obtain ⟨v1, vs1, d1, ds1, p1, q1, rfl, rfl, rfl, h1, r1⟩ := trodAll_cons r0
  obtain ⟨v2, vs2, d2, ds2, p2, q2, rfl, rfl, rfl, h2, r2⟩ := trodAll_cons r1
  obtain ⟨rfl, rfl, rfl⟩ := trodAll_nil r2
  obtain rfl : args = #[v0, v1, v2] := by cases args; simp_all
  obtain ⟨rfl, rfl⟩ := trodVars_none hV
  obtain ⟨a0, len0, cap0, rfl⟩ := okWide_slice Try.underlying22 (hval 0 22 v0 rfl rfl)
  obtain ⟨fuel0, t0⟩ := h0
  obtain ⟨l0, ⟨u0, e0, g0, k0⟩, _⟩ := opens22 _ _ _ t0
  simp [Value.cells] at e0
  subst e0
  obtain ⟨a1, len1, cap1, rfl⟩ := okWide_slice Try.underlying22 (hval 1 22 v1 rfl rfl)
  obtain ⟨fuel1, t1⟩ := h1
  obtain ⟨l1, ⟨u1, e1, g1, k1⟩, _⟩ := opens22 _ _ _ t1
  simp [Value.cells] at e1
  subst e1
  obtain ⟨ag2, rfl, _⟩ := okWide_struct Try.underlying26 (hval 2 26 v2 rfl rfl)
  obtain ⟨fuel2, t2⟩ := h2
  obtain ⟨l2, ⟨e2, k2, m2⟩, _⟩ := opens26 _ _ _ t2
  obtain ⟨ag2⟩ := ag2
  have e2 : ag2 = _ := e2
  subst e2
  simp only [List.append_nil] at hW' hA1
  refine ((law_fn (.slice a0 len0 cap0) (.slice a1 len1 cap1) l0 l1 l2.1 l2.2 (memOf W) g0 k0 g1 k1 (k2) (m2)).2 W (memOf_ok W)).mono fun e W' ⟨rs, M', he, hb, _, _, _, hr⟩ => ?_
  subst he hr
  exact ⟨_, rfl, post_of_below laid (by rw [Try.params4]; exact of_decide_eq_true (by kernel_rfl)) rfl hW' hA1
    (fun _ _ _ => (trodAll_cons_mk (shut_bool Try.underlying4 _) trodAll_mk0)) rfl rfl hb (ok_one (by kernel_rfl) rfl (okWide_bool_mk Try.underlying4 _))⟩

/-- The statement. -/
theorem proved : Rows.CutMeetsSaid :=
  OpenClaim.holds_of_wide 4 Try.f4 rfl rfl rfl rfl rfl rfl rfl ⟨rfl, rfl, rfl, rfl, rfl⟩ rfl rfl rfl rfl rfl (by kernel_rfl) Try.func4 (by kernel_rfl)
    (of_decide_eq_true (by kernel_rfl)) (by unfold Func.isWrapper; first | (rw [if_pos (by decide +kernel)]; kernel_rfl) | (rw [if_neg (by decide +kernel)]; exact ⟨rfl, rfl⟩))
    (fun os started H enc _ => lifted os started H enc)
#print axioms proved
end Go.Proofs.Ytlihojecopfgfaa.cutMeets
