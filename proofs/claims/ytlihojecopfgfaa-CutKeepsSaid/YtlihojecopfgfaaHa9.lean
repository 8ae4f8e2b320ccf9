/- CutKeeps: each place that a polygon and a half-plane have is in what is left; no corner of that is farther than 1 in X and in Y from the half-plane, or out of the rectangle of the polygon. No conditions beyond the statement's own. -/
import Derived.Test.YtlihojecopfgfaaHa8
set_option linter.unusedVariables false
set_option linter.unusedSimpArgs false
/- Contracts of package cut: slices.MinFunc, Common. -/
namespace Go.Proofs.Ytlihojecopfgfaa
open Go Go.V Go.RowKit
set_option maxRecDepth 20000 in
set_option maxHeartbeats 2000000 in
theorem Min_fn (v : Value) (ps : List Pt) (M : Mem) (hv : Pts M v ps) (h0 : 1 ≤ ps.length) : V.Fn Try.prog 44 [v, .func (.func 39) #[] #[]] M fun rs _ => ∃ x ∈ ps, rs = [ptv x] := by
  obtain ⟨ad, c, rfl⟩ := hv.shape
  obtain ⟨_, hm, hrd⟩ := hv.cellsOf
  obtain ⟨ad', rfl, hp0⟩ := hrd M (Mem.le_refl _) 0 (by omega)
  refine Fn.of_vc cxOK Try.func44 rfl rfl rfl ?_
  repeat (first | refine VIf.tt ?_ | refine VIf.ff ?_)
  refine VIf.mk (fun h => ?_) (fun _ => ?_)
  · have := of_decide_eq_true h; omega
  repeat (first | refine VIf.tt ?_ | refine VIf.ff ?_)
  refine VIdx.mk ad' 0 rfl rfl (by omega) ?_
  repeat (first | refine VIf.tt ?_ | refine VIf.ff ?_)
  refine VReads.mk [.int .i64 (gp ps 0).1, .int .i64 (gp ps 0).2] rfl hp0 ?_
  repeat (first | refine VIf.tt ?_ | refine VIf.ff ?_)
  refine VCode.loop cxOK (Nat × Nat × Mem) (fun s => ⟨[(0, .v (.slice (some ad') ps.length c)), (1, .v (.func (.func 39) #[] #[])), (4, .box 0 0), (5, .box 1 0), (6, .v (.int .i64 s.1))], [(1, some (.box 26 [.v (.int .i64 (gp ps s.2.1).1), .v (.int .i64 (gp ps s.2.1).2)])), (0, some (.box 26 [.v (.int .i64 0), .v (.int .i64 0)]))], 2, s.2.2, 33, ⟨fun _ => none, none, fun _ => none⟩⟩)
    (fun s => 1 ≤ s.1 ∧ s.1 ≤ ps.length ∧ s.2.1 < ps.length ∧ M.le s.2.2) (fun s => ps.length - s.1) (1, 0, M) ⟨Nat.le_refl _, h0, by simp only; omega, Mem.le_refl _⟩ (Wk.mk' id (by repeat' constructor) (by repeat' constructor) (injOK_id _) rfl rfl rfl) ?_
  rintro ⟨i, b, M1⟩ ⟨hi0, hi, hb, hM1⟩ m
  simp only at hi0 hi hb hM1
  repeat (first | refine VIf.tt ?_ | refine VIf.ff ?_)
  refine VIf.mk (fun hlt => ?_) (fun hge => ?_)
  rotate_left
  · repeat (first | refine VIf.tt ?_ | refine VIf.ff ?_)
    exact VFact.mk ⟨gp ps b, gp_mem hb, rfl⟩ trivial
  have hlt : i < ps.length := by have := of_decide_eq_true hlt; simp only at this; omega
  obtain ⟨_, e, hp⟩ := hrd M1 hM1 i hlt
  cases e
  repeat (first | refine VIf.tt ?_ | refine VIf.ff ?_)
  refine VDraw.go (by kernel_rfl) ?_
  repeat (first | refine VIf.tt ?_ | refine VIf.ff ?_)
  refine VIdx.mk ad' i rfl rfl hlt ?_
  repeat (first | refine VIf.tt ?_ | refine VIf.ff ?_)
  refine VReads.mk [.int .i64 (gp ps i).1, .int .i64 (gp ps i).2] rfl hp ?_
  repeat (first | refine VIf.tt ?_ | refine VIf.ff ?_)
  refine VFn.mk _ (compareC_fn (gp ps i).1 (gp ps i).2 (gp ps b).1 (gp ps b).2 M1) ?_
  rintro rs M2 hM2 rfl
  repeat (first | refine VIf.tt ?_ | refine VIf.ff ?_)
  refine VIf.mk (fun hc => ?_) (fun hc => ?_)
  · obtain ⟨_, e, hp2⟩ := hrd M2 (hM1.trans hM2) i hlt
    cases e
    repeat (first | refine VIf.tt ?_ | refine VIf.ff ?_)
    refine VIdx.mk ad' i rfl rfl hlt ?_
    repeat (first | refine VIf.tt ?_ | refine VIf.ff ?_)
    refine VReads.mk [.int .i64 (gp ps i).1, .int .i64 (gp ps i).2] rfl hp2 ?_
    unfold maxLen at hm
    repeat (first | refine VIf.tt ?_ | refine VIf.ff ?_)
    refine VArith.ok (by first | omega | (simp only; omega)) (by first | omega | (simp only; omega)) ?_
    exact ⟨(i + 1, i, M2), ⟨by simp only; omega, hlt, hlt, hM1.trans hM2⟩, by simp only; omega, (Wk.mk' id (by repeat' constructor) (by repeat' constructor) (injOK_id _) rfl rfl rfl)⟩
  · unfold maxLen at hm
    repeat (first | refine VIf.tt ?_ | refine VIf.ff ?_)
    refine VArith.ok (by first | omega | (simp only; omega)) (by first | omega | (simp only; omega)) ?_
    exact ⟨(i + 1, b, M2), ⟨by simp only; omega, hlt, hb, hM1.trans hM2⟩, by simp only; omega, (Wk.mk' id (by repeat' constructor) (by repeat' constructor) (injOK_id _) rfl rfl rfl)⟩
def comA (p q : List Pt) : List Pt := cornA (cornA (crosA p q) p) q
set_option maxRecDepth 20000 in
set_option maxHeartbeats 2000000 in
theorem Common_fn (v w : Value) (ps qs : List Pt) (M : Mem) (hv : Pts M v ps) (hw : Pts M w qs) (hp64 : i64P ps) (hq64 : i64P qs) :
    V.Fn Try.prog 17 [v, w] M fun rs _ => if (validB ps && validB qs) = true then (cornA ps qs = [] ∧ cornA qs ps = [] ∧ comA ps qs = [] ∧ rs = [pt 0 0, .bool false, .int .i64 0]) ∨ ∃ x, (x ∈ cornA ps qs ∨ (cornA ps qs = [] ∧ (x ∈ cornA qs ps ∨ x ∈ comA ps qs))) ∧ rs = [ptv x, .bool true, .int .i64 0] else rs = [pt 0 0, .bool false, .int .i64 1] := by
  refine Fn.of_vc cxOK Try.func17 rfl rfl rfl ?_
  repeat (first | refine VIf.tt ?_ | refine VIf.ff ?_)
  refine VFn.mk _ (Valid_fn v ps M hv hp64) ?_
  rintro rs M1 hM1 rfl
  repeat (first | refine VIf.tt ?_ | refine VIf.ff ?_)
  refine VIf.mk (fun h => ?_) (fun h => ?_)
  · repeat (first | refine VIf.tt ?_ | refine VIf.ff ?_)
    refine VFact.mk ?_ trivial
    rw [(Bool.not_eq_true' _).mp h]; rfl
  have hp := (Bool.not_eq_false' _).mp h
  repeat (first | refine VIf.tt ?_ | refine VIf.ff ?_)
  refine VFn.mk _ (Valid_fn w qs M1 (hw.le hM1) hq64) ?_
  rintro rs M2 hM2 rfl
  repeat (first | refine VIf.tt ?_ | refine VIf.ff ?_)
  refine VIf.mk (fun h => ?_) (fun h => ?_)
  · repeat (first | refine VIf.tt ?_ | refine VIf.ff ?_)
    refine VFact.mk ?_ trivial
    rw [(Bool.not_eq_true' _).mp h, Bool.and_false]; rfl
  have hq := (Bool.not_eq_false' _).mp h
  rw [hp, hq]
  have m2 := hM1.trans hM2
  have hlp := (len_one hp).2
  have hlq := (len_one hq).2
  have hpp := valid_mem hp
  have hqq := valid_mem hq
  have hcl : (crosA ps qs).length ≤ 100000 := by
    have := crosX_len ps qs hlq ps.length
    unfold crosA; omega
  have hcp : ∀ x ∈ crosA ps qs, placeB x = true := fun x hx => shar_place hp x (mem_sharA.2 (.inr (.inr hx)))
  have hdp : ∀ x ∈ cornA (crosA ps qs) ps, placeB x = true := fun x hx => hcp x (mem_cornA.1 hx).1
  have hdl : (cornA (crosA ps qs) ps).length ≤ 100000 := by
    have := List.length_filter_le (hasB ps) (crosA ps qs)
    unfold cornA; omega
  repeat (first | refine VIf.tt ?_ | refine VIf.ff ?_)
  refine VFn.mk _ (cornersC_fn v w ps qs M2 (hv.le m2) (hw.le m2) hq hpp (by omega)) ?_
  rintro rs M3 hM3 ⟨u1, rfl, h1⟩
  have m3 := m2.trans hM3
  repeat (first | refine VIf.tt ?_ | refine VIf.ff ?_)
  refine VFn.mk _ (cornersC_fn w v qs ps M3 (hw.le m3) (hv.le m3) hp hqq (by omega)) ?_
  rintro rs M4 hM4 ⟨u2, rfl, h2⟩
  have m4 := m3.trans hM4
  repeat (first | refine VIf.tt ?_ | refine VIf.ff ?_)
  refine VFn.mk _ (crossings_fn v w ps qs M4 (hv.le m4) (hw.le m4) hp hq) ?_
  rintro rs M5 hM5 ⟨u3, rfl, h3⟩
  have m5 := m4.trans hM5
  repeat (first | refine VIf.tt ?_ | refine VIf.ff ?_)
  refine VFn.mk _ (cornersC_fn u3 v _ ps M5 h3 (hv.le m5) hp hcp hcl) ?_
  rintro rs M6 hM6 ⟨u4, rfl, h4⟩
  have m6 := m5.trans hM6
  repeat (first | refine VIf.tt ?_ | refine VIf.ff ?_)
  refine VFn.mk _ (cornersC_fn u4 w _ qs M6 h4 (hw.le m6) hq hdp hdl) ?_
  rintro rs M7 hM7 ⟨u5, rfl, h5⟩
  obtain ⟨d1, k1, rfl⟩ := h1.shape
  obtain ⟨d2, k2, rfl⟩ := h2.shape
  obtain ⟨d5, k5, rfl⟩ := h5.shape
  have g1 := h1.le (hM4.trans (hM5.trans (hM6.trans hM7)))
  have g2 := h2.le (hM5.trans (hM6.trans hM7))
  repeat (first | refine VIf.tt ?_ | refine VIf.ff ?_)
  refine VCode.loop cxOK Nat (fun i => ⟨[(4, .box 0 0), (7, .clo 39 [] []), (32, .row 1), (33, .v (.int .i64 3)), (34, .v (.int .i64 i))], [(1, some (.row 22 1 3 [.slice d1 (cornA ps qs).length k1, .slice d2 (cornA qs ps).length k2, .slice d5 (cornA (cornA (crosA ps qs) ps) qs).length k5])), (0, some (.box 26 [.v (.int .i64 0), .v (.int .i64 0)]))], 2, M7, 46, ⟨fun _ => none, none, fun _ => none⟩⟩)
    (fun i => i ≤ 3 ∧ (0 < i → cornA ps qs = []) ∧ (1 < i → cornA qs ps = []) ∧ (2 < i → comA ps qs = [])) (fun i => 3 - i) 0 ⟨by decide, fun h => absurd h (by decide), fun h => absurd h (by decide), fun h => absurd h (by decide)⟩ (Wk.mk' id (by repeat' constructor) (by repeat' constructor) (injOK_id _) rfl rfl rfl) ?_
  rintro i ⟨hi, e1, e2, e3⟩ m
  repeat (first | refine VIf.tt ?_ | refine VIf.ff ?_)
  refine VIf.mk (fun hlt => ?_) (fun hge => ?_)
  · have hlt : i < 3 := by have := of_decide_eq_true hlt; omega
    have : i = 0 ∨ i = 1 ∨ i = 2 := by omega
    rcases this with rfl | rfl | rfl
    · repeat (first | refine VIf.tt ?_ | refine VIf.ff ?_)
      refine VIdxR.mk 0 rfl (by decide) ?_
      repeat (first | refine VIf.tt ?_ | refine VIf.ff ?_)
      refine VCells.mk [_] rfl (one_get rfl) ⟨_, rfl, ?_⟩
      repeat (first | refine VIf.tt ?_ | refine VIf.ff ?_)
      refine VIf.mk (fun h => ?_) (fun h => ?_)
      · have h := of_decide_eq_true h
        repeat (first | refine VIf.tt ?_ | refine VIf.ff ?_)
        refine VFn.mk _ (Min_fn _ _ M7 g1 (by omega)) ?_
        rintro rs M8 hM8 ⟨x, hx, rfl⟩
        repeat (first | refine VIf.tt ?_ | refine VIf.ff ?_)
        exact VFact.mk (.inr ⟨x, (.inl hx), rfl⟩) trivial
      · have h := of_decide_eq_false h
        have hz : cornA ps qs = [] := List.length_eq_zero_iff.1 (by first | omega | (unfold comA; omega))
        repeat (first | refine VIf.tt ?_ | refine VIf.ff ?_)
        refine VArith.ok (by first | omega | (simp only; omega)) (by first | omega | (simp only; omega)) ?_
        exact ⟨0 + 1, ⟨by decide, fun _ => hz, fun h => absurd h (by decide), fun h => absurd h (by decide)⟩, by decide, (Wk.mk' id (by repeat' constructor) (by repeat' constructor) (injOK_id _) rfl rfl rfl)⟩
    · repeat (first | refine VIf.tt ?_ | refine VIf.ff ?_)
      refine VIdxR.mk 1 rfl (by decide) ?_
      repeat (first | refine VIf.tt ?_ | refine VIf.ff ?_)
      refine VCells.mk [_] rfl (one_get rfl) ⟨_, rfl, ?_⟩
      repeat (first | refine VIf.tt ?_ | refine VIf.ff ?_)
      refine VIf.mk (fun h => ?_) (fun h => ?_)
      · have h := of_decide_eq_true h
        repeat (first | refine VIf.tt ?_ | refine VIf.ff ?_)
        refine VFn.mk _ (Min_fn _ _ M7 g2 (by omega)) ?_
        rintro rs M8 hM8 ⟨x, hx, rfl⟩
        repeat (first | refine VIf.tt ?_ | refine VIf.ff ?_)
        exact VFact.mk (.inr ⟨x, (.inr ⟨e1 (by decide), .inl hx⟩), rfl⟩) trivial
      · have h := of_decide_eq_false h
        have hz : cornA qs ps = [] := List.length_eq_zero_iff.1 (by first | omega | (unfold comA; omega))
        repeat (first | refine VIf.tt ?_ | refine VIf.ff ?_)
        refine VArith.ok (by first | omega | (simp only; omega)) (by first | omega | (simp only; omega)) ?_
        exact ⟨1 + 1, ⟨by decide, fun _ => e1 (by decide), fun _ => hz, fun h => absurd h (by decide)⟩, by decide, (Wk.mk' id (by repeat' constructor) (by repeat' constructor) (injOK_id _) rfl rfl rfl)⟩
    · repeat (first | refine VIf.tt ?_ | refine VIf.ff ?_)
      refine VIdxR.mk 2 rfl (by decide) ?_
      repeat (first | refine VIf.tt ?_ | refine VIf.ff ?_)
      refine VCells.mk [_] rfl (one_get rfl) ⟨_, rfl, ?_⟩
      repeat (first | refine VIf.tt ?_ | refine VIf.ff ?_)
      refine VIf.mk (fun h => ?_) (fun h => ?_)
      · have h := of_decide_eq_true h
        repeat (first | refine VIf.tt ?_ | refine VIf.ff ?_)
        refine VFn.mk _ (Min_fn _ _ M7 h5 (by omega)) ?_
        rintro rs M8 hM8 ⟨x, hx, rfl⟩
        repeat (first | refine VIf.tt ?_ | refine VIf.ff ?_)
        exact VFact.mk (.inr ⟨x, (.inr ⟨e1 (by decide), .inr hx⟩), rfl⟩) trivial
      · have h := of_decide_eq_false h
        have hz : comA ps qs = [] := List.length_eq_zero_iff.1 (by first | omega | (unfold comA; omega))
        repeat (first | refine VIf.tt ?_ | refine VIf.ff ?_)
        refine VArith.ok (by first | omega | (simp only; omega)) (by first | omega | (simp only; omega)) ?_
        exact ⟨2 + 1, ⟨by decide, fun _ => e1 (by decide), fun _ => e2 (by decide), fun _ => hz⟩, by decide, (Wk.mk' id (by repeat' constructor) (by repeat' constructor) (injOK_id _) rfl rfl rfl)⟩
  · have hge : 3 ≤ i := by have := of_decide_eq_false hge; omega
    repeat (first | refine VIf.tt ?_ | refine VIf.ff ?_)
    exact VFact.mk (.inl ⟨e1 (by omega), e2 (by omega), e3 (by omega), rfl⟩) trivial
end Go.Proofs.Ytlihojecopfgfaa

/- Contracts of package cut with the value given; the examples at the head of the laws. -/
namespace Go.Proofs.Ytlihojecopfgfaa
open Go Go.V Go.RowKit
theorem Cut_is {v : Value} {ps q : List Pt} {A B C : Int} {b : Bool} {M : Mem} (hv : Pts M v ps) (h64 : i64P ps) (hV : validB ps = true) (hH : halfB A B C = true) (hq : arC (cutA ps A B C) = q) (hb : decide (0 < (cutA ps A B C).length) = b) :
    V.Fn Try.prog 12 [v, .agg #[.int .i64 A, .int .i64 B, .int .i64 C]] M fun rs M' => ∃ u, rs = [u, .bool b, .int .i64 0] ∧ Pts M' u q :=
  (Cut_fn v ps A B C M hv h64).mono fun rs M' _ h => by
    rw [hV, hH, if_pos (by rfl), hq, hb] at h; exact h
theorem Cut_err {v : Value} {ps : List Pt} {A B C : Int} {M : Mem} (hv : Pts M v ps) (h64 : i64P ps) (h : (validB ps && halfB A B C) = false) :
    V.Fn Try.prog 12 [v, .agg #[.int .i64 A, .int .i64 B, .int .i64 C]] M fun rs _ => rs = [.slice none 0 0, .bool false, .int .i64 1] :=
  (Cut_fn v ps A B C M hv h64).mono fun rs M' _ r => by
    rw [if_neg (by rw [h]; decide)] at r; exact r
theorem Meet_is {v w : Value} {ps qs q : List Pt} {b : Bool} {M : Mem} (hv : Pts M v ps) (hw : Pts M w qs) (hp : validB ps = true) (hq : validB qs = true) (hr : arC (sharA ps qs) = q) (hb : decide (0 < (sharA ps qs).length) = b) :
    V.Fn Try.prog 14 [v, w] M fun rs M' => ∃ u, rs = [u, .bool b, .int .i64 0] ∧ Pts M' u q :=
  (Meet_fn v w ps qs M hv hw (mem_64 (valid_mem hp)) (mem_64 (valid_mem hq))).mono fun rs M' _ h => by
    rw [hp, hq, if_pos (by rfl), hr, hb] at h; exact h
theorem Meet_err {v w : Value} {ps qs : List Pt} {M : Mem} (hv : Pts M v ps) (hw : Pts M w qs) (h1 : i64P ps) (h2 : i64P qs) (h : (validB ps && validB qs) = false) :
    V.Fn Try.prog 14 [v, w] M fun rs _ => rs = [.slice none 0 0, .bool false, .int .i64 1] :=
  (Meet_fn v w ps qs M hv hw h1 h2).mono fun rs M' _ r => by
    rw [if_neg (by rw [h]; decide)] at r; exact r
theorem Apart_is {v w : Value} {ps qs : List Pt} {b : Bool} {M : Mem} (hv : Pts M v ps) (hw : Pts M w qs) (hp : validB ps = true) (hq : validB qs = true) (hb : (((sharA ps qs).length : Int) == 0) = b) :
    V.Fn Try.prog 18 [v, w] M fun rs _ => rs = [.bool b, .int .i64 0] :=
  (Apart_fn v w ps qs M hv hw (mem_64 (valid_mem hp)) (mem_64 (valid_mem hq))).mono fun rs M' _ h => by
    rw [hp, hq, if_pos (by rfl), hb] at h; exact h
theorem Apart_err {v w : Value} {ps qs : List Pt} {M : Mem} (hv : Pts M v ps) (hw : Pts M w qs) (h1 : i64P ps) (h2 : i64P qs) (h : (validB ps && validB qs) = false) :
    V.Fn Try.prog 18 [v, w] M fun rs _ => rs = [.bool false, .int .i64 1] :=
  (Apart_fn v w ps qs M hv hw h1 h2).mono fun rs M' _ r => by
    rw [if_neg (by rw [h]; decide)] at r; exact r
theorem Within_is {v w : Value} {ps qs : List Pt} {b : Bool} {M : Mem} (hv : Pts M v ps) (hw : Pts M w qs) (hp : validB ps = true) (hq : validB qs = true) (hb : (((cornA ps qs).length : Int) == (ps.length : Int)) = b) :
    V.Fn Try.prog 19 [v, w] M fun rs _ => rs = [.bool b, .int .i64 0] :=
  (WithinC_fn v w ps qs M hv hw (mem_64 (valid_mem hp)) (mem_64 (valid_mem hq))).mono fun rs M' _ h => by
    rw [hp, hq, if_pos (by rfl), hb] at h; exact h
theorem Within_err {v w : Value} {ps qs : List Pt} {M : Mem} (hv : Pts M v ps) (hw : Pts M w qs) (h1 : i64P ps) (h2 : i64P qs) (h : (validB ps && validB qs) = false) :
    V.Fn Try.prog 19 [v, w] M fun rs _ => rs = [.bool false, .int .i64 1] :=
  (WithinC_fn v w ps qs M hv hw h1 h2).mono fun rs M' _ r => by
    rw [if_neg (by rw [h]; decide)] at r; exact r
theorem arC_eq {l p : List Pt} (hne : l ≠ []) (hl : l.length ≤ 4000) (hv : validB p = true) (h1 : ∀ y ∈ l, hasB p y = true) (h2 : ∀ y ∈ p, y ∈ l) : arC l = p := by
  have hh : Hl l p := hl_of_has hv h1 h2
  unfold arC
  rw [if_neg hne, around_eq hh, if_pos ⟨hl, (len_one hv).2⟩]
def triP : List Pt := [(0, 0), (4, 0), (0, 4)]
def sqP (x y n : Int) : List Pt := [(x, y), (x + n, y), (x + n, y + n), (x, y + n)]
def cutP1 : List Pt := [(0, 0), (1, 0), (1, 3), (0, 4)]
def cutP2 : List Pt := [(0, 0), (2, 0), (2, 3), (0, 4)]
def meetP : List Pt := [(3, 0), (4, 0), (3, 1)]
theorem cut_e1 : arC (cutA triP 1 0 1) = cutP1 := arC_eq (by decide +kernel) (by decide +kernel) (by decide) (by decide +kernel) (by decide +kernel)
theorem cut_e2 : arC (cutA triP 2 0 3) = cutP2 := arC_eq (by decide +kernel) (by decide +kernel) (by decide) (by decide +kernel) (by decide +kernel)
theorem meet_e : arC (sharA triP (sqP 3 0 3)) = meetP := arC_eq (by decide +kernel) (by decide +kernel) (by decide) (by decide +kernel) (by decide +kernel)
theorem at04_fn (x y : Int) (M : Mem) : FnP Try.prog 23 [.int .i64 x, .int .i64 y] M [pt x y] := by
  refine Fn.of_vc cxOK Try.func23 rfl rfl rfl ?_
  repeat (first | refine VIf.tt ?_ | refine VIf.ff ?_)
  exact VFact.mk ⟨rfl, rfl⟩ trivial
theorem square04_fn (x y n : Int) (M : Mem) (h : 0 ≤ x ∧ x ≤ 100 ∧ 0 ≤ y ∧ y ≤ 100 ∧ 0 ≤ n ∧ n ≤ 100) : V.Fn Try.prog 24 [.int .i64 x, .int .i64 y, .int .i64 n] M fun rs M' => ∃ u, rs = [u] ∧ Pts M' u (sqP x y n) := by
  refine Fn.of_vc cxOK Try.func24 rfl rfl rfl ?_
  repeat (first | refine VIf.tt ?_ | refine VIf.ff ?_)
  refine VFn.p (at04_fn x y M) ?_
  repeat (first | refine VIf.tt ?_ | refine VIf.ff ?_)
  refine VArith.ok (by first | omega | (simp only; omega)) (by first | omega | (simp only; omega)) ?_
  repeat (first | refine VIf.tt ?_ | refine VIf.ff ?_)
  refine VFn.p (at04_fn (x + n) y M) ?_
  repeat (first | refine VIf.tt ?_ | refine VIf.ff ?_)
  refine VArith.ok (by first | omega | (simp only; omega)) (by first | omega | (simp only; omega)) ?_
  repeat (first | refine VIf.tt ?_ | refine VIf.ff ?_)
  refine VArith.ok (by first | omega | (simp only; omega)) (by first | omega | (simp only; omega)) ?_
  repeat (first | refine VIf.tt ?_ | refine VIf.ff ?_)
  refine VFn.p (at04_fn (x + n) (y + n) M) ?_
  repeat (first | refine VIf.tt ?_ | refine VIf.ff ?_)
  refine VArith.ok (by first | omega | (simp only; omega)) (by first | omega | (simp only; omega)) ?_
  repeat (first | refine VIf.tt ?_ | refine VIf.ff ?_)
  refine VFn.p (at04_fn x (y + n) M) ?_
  repeat (first | refine VIf.tt ?_ | refine VIf.ff ?_)
  refine VFz.mk fun u B M1 hM1 hu => ?_
  repeat (first | refine VIf.tt ?_ | refine VIf.ff ?_)
  exact VFact.mk ⟨u, rfl, hu⟩ trivial
theorem common_e (v w : Value) (M : Mem) (hv : Pts M v (sqP 3 0 3)) (hw : Pts M w triP) : V.Fn Try.prog 17 [v, w] M fun rs _ => rs = [pt 3 0, .bool true, .int .i64 0] :=
  (Common_fn v w _ _ M hv hw (mem_64 (valid_mem (by decide))) (mem_64 (valid_mem (by decide)))).mono fun rs M' _ h => by
    rw [if_pos (by decide)] at h
    have e : cornA (sqP 3 0 3) triP = [(3, 0)] := by decide +kernel
    rw [e] at h
    rcases h with ⟨h, _⟩ | ⟨x, h, rfl⟩
    · cases h
    · rcases h with h | ⟨h, _⟩
      · have : x = (3, 0) := by simpa using h
        subst this; rfl
      · cases h
set_option maxRecDepth 100000 in
set_option maxHeartbeats 4000000 in
theorem head04_fn (M : Mem) : V.Fn Try.prog 9 [] M fun rs _ => rs = [.bool true] := by
  refine Fn.of_vc cxOK Try.func9 rfl rfl rfl ?_
  repeat (first | refine VIf.tt ?_ | refine VIf.ff ?_)
  refine VFn.p (at04_fn 0 0 M) ?_
  repeat (first | refine VIf.tt ?_ | refine VIf.ff ?_)
  refine VFn.p (at04_fn 4 0 M) ?_
  repeat (first | refine VIf.tt ?_ | refine VIf.ff ?_)
  refine VFn.p (at04_fn 0 4 M) ?_
  repeat (first | refine VIf.tt ?_ | refine VIf.ff ?_)
  refine VFz.mk fun p _ M1 hM1 hp => ?_
  have hp : Pts M1 p triP := hp
  have p64 : i64P triP := mem_64 (valid_mem (by decide))
  repeat (first | refine VIf.tt ?_ | refine VIf.ff ?_)
  refine VFn.mk _ (Cut_is (A := 1) (B := 0) (C := 1) hp p64 (by decide) (by decide) cut_e1 (b := true) (by decide +kernel)) ?_
  rintro rs M2 hM2 ⟨a, rfl, ha⟩
  repeat (first | refine VIf.tt ?_ | refine VIf.ff ?_)
  refine VFn.mk _ (Cut_is (A := 2) (B := 0) (C := 3) (hp.le hM2) p64 (by decide) (by decide) cut_e2 (b := true) (by decide +kernel)) ?_
  rintro rs M3 hM3 ⟨b, rfl, hb⟩
  have m3 := hM2.trans hM3
  repeat (first | refine VIf.tt ?_ | refine VIf.ff ?_)
  refine VFn.mk _ (Cut_is (A := 1) (B := 0) (C := -1) (hp.le m3) p64 (by decide) (by decide) rfl (b := false) (by decide +kernel)) ?_
  rintro rs M4 hM4 ⟨x4, rfl, _⟩
  have m4 := m3.trans hM4
  repeat (first | refine VIf.tt ?_ | refine VIf.ff ?_)
  refine VFn.mk _ (square04_fn 3 0 3 M4 (by decide)) ?_
  rintro rs M5 hM5 ⟨s1, rfl, hs1⟩
  have m5 := m4.trans hM5
  repeat (first | refine VIf.tt ?_ | refine VIf.ff ?_)
  refine VFn.mk _ (Meet_is (hp.le m5) hs1 (by decide) (by decide) meet_e (b := true) (by decide +kernel)) ?_
  rintro rs M6 hM6 ⟨mm, rfl, hm⟩
  have m6 := m5.trans hM6
  repeat (first | refine VIf.tt ?_ | refine VIf.ff ?_)
  refine VFn.mk _ (square04_fn 3 2 3 M6 (by decide)) ?_
  rintro rs M7 hM7 ⟨s2, rfl, hs2⟩
  have m7 := m6.trans hM7
  repeat (first | refine VIf.tt ?_ | refine VIf.ff ?_)
  refine VFn.mk _ (Apart_is (hp.le m7) hs2 (by decide) (by decide) (b := true) (by decide +kernel)) ?_
  rintro rs M8 hM8 rfl
  have m8 := m7.trans hM8
  repeat (first | refine VIf.tt ?_ | refine VIf.ff ?_)
  refine VFn.mk _ (square04_fn 3 0 3 M8 (by decide)) ?_
  rintro rs M9 hM9 ⟨s3, rfl, hs3⟩
  have m9 := m8.trans hM9
  repeat (first | refine VIf.tt ?_ | refine VIf.ff ?_)
  refine VFn.mk _ (common_e s3 p M9 hs3 (hp.le m9)) ?_
  rintro rs M10 hM10 rfl
  have m10 := m9.trans hM10
  repeat (first | refine VIf.tt ?_ | refine VIf.ff ?_)
  refine VFn.mk _ (Cut_err (A := 0) (B := 0) (C := 1) (hp.le m10) p64 (by decide)) ?_
  rintro rs M11 hM11 rfl
  have m11 := m10.trans hM11
  repeat (first | refine VIf.tt ?_ | refine VIf.ff ?_)
  refine VFn.p (at04_fn 0 0 M11) ?_
  repeat (first | refine VIf.tt ?_ | refine VIf.ff ?_)
  refine VFn.p (at04_fn 1 0 M11) ?_
  repeat (first | refine VIf.tt ?_ | refine VIf.ff ?_)
  refine VFn.p (at04_fn 1 3 M11) ?_
  repeat (first | refine VIf.tt ?_ | refine VIf.ff ?_)
  refine VFn.p (at04_fn 0 4 M11) ?_
  repeat (first | refine VIf.tt ?_ | refine VIf.ff ?_)
  refine VFz.mk fun y1 _ M12 hM12 hy1 => ?_
  have hy1 : Pts M12 y1 cutP1 := hy1
  have n12 : M2.le M12 := hM3.trans (hM4.trans (hM5.trans (hM6.trans (hM7.trans (hM8.trans (hM9.trans (hM10.trans (hM11.trans (hM12)))))))))
  repeat (first | refine VIf.tt ?_ | refine VIf.ff ?_)
  refine VFn.p (Same_fn a y1 cutP1 cutP1 M12 (ha.le n12) hy1) ?_
  repeat (first | refine VIf.tt ?_ | refine VIf.ff ?_)
  refine VFn.p (at04_fn 0 0 M12) ?_
  repeat (first | refine VIf.tt ?_ | refine VIf.ff ?_)
  refine VFn.p (at04_fn 2 0 M12) ?_
  repeat (first | refine VIf.tt ?_ | refine VIf.ff ?_)
  refine VFn.p (at04_fn 2 3 M12) ?_
  repeat (first | refine VIf.tt ?_ | refine VIf.ff ?_)
  refine VFn.p (at04_fn 0 4 M12) ?_
  repeat (first | refine VIf.tt ?_ | refine VIf.ff ?_)
  refine VFz.mk fun y2 _ M13 hM13 hy2 => ?_
  have hy2 : Pts M13 y2 cutP2 := hy2
  have n13 : M3.le M13 := hM4.trans (hM5.trans (hM6.trans (hM7.trans (hM8.trans (hM9.trans (hM10.trans (hM11.trans (hM12.trans (hM13)))))))))
  repeat (first | refine VIf.tt ?_ | refine VIf.ff ?_)
  refine VFn.p (Same_fn b y2 cutP2 cutP2 M13 (hb.le n13) hy2) ?_
  repeat (first | refine VIf.tt ?_ | refine VIf.ff ?_)
  refine VDraw.go (by kernel_rfl) ?_
  repeat (first | refine VIf.tt ?_ | refine VIf.ff ?_)
  refine VFn.p (at04_fn 3 0 M13) ?_
  repeat (first | refine VIf.tt ?_ | refine VIf.ff ?_)
  refine VFn.p (at04_fn 4 0 M13) ?_
  repeat (first | refine VIf.tt ?_ | refine VIf.ff ?_)
  refine VFn.p (at04_fn 3 1 M13) ?_
  repeat (first | refine VIf.tt ?_ | refine VIf.ff ?_)
  refine VFz.mk fun y3 _ M14 hM14 hy3 => ?_
  have hy3 : Pts M14 y3 meetP := hy3
  have n14 : M6.le M14 := hM7.trans (hM8.trans (hM9.trans (hM10.trans (hM11.trans (hM12.trans (hM13.trans (hM14)))))))
  repeat (first | refine VIf.tt ?_ | refine VIf.ff ?_)
  refine VFn.p (Same_fn mm y3 meetP meetP M14 (hm.le n14) hy3) ?_
  repeat (first | refine VIf.tt ?_ | refine VIf.ff ?_)
  refine VFn.p (at04_fn 3 0 M14) ?_
  repeat (first | refine VIf.tt ?_ | refine VIf.ff ?_)
  refine VFact.mk ?_ trivial
  exact congrArg (fun b => [Value.bool b]) (by decide)
end Go.Proofs.Ytlihojecopfgfaa

/- Contracts of the laws of package cut: few, Over, abs; numbers whose sign is turned. -/
namespace Go.Proofs.Ytlihojecopfgfaa
open Go Go.V Go.RowKit
theorem few04_fn (a b : Option Addr) (n c m d : Nat) (M : Mem) : FnP Try.prog 10 [.slice a n c, .slice b m d] M [.bool (decide (n ≤ 80 ∧ m ≤ 80))] := by
  refine Fn.of_vc cxOK Try.func10 rfl rfl rfl ?_
  repeat (first | refine VIf.tt ?_ | refine VIf.ff ?_)
  refine VIf.mk (fun h => ?_) (fun h => ?_)
  · have h := of_decide_eq_true h
    repeat (first | refine VIf.tt ?_ | refine VIf.ff ?_)
    refine VFact.mk ⟨?_, rfl⟩ trivial
    refine congrArg (fun b => [Value.bool b]) (decide_eq_decide.2 ?_)
    omega
  · have h := of_decide_eq_false h
    repeat (first | refine VIf.tt ?_ | refine VIf.ff ?_)
    refine VFact.mk ⟨?_, rfl⟩ trivial
    rw [decide_eq_false (by omega)]
theorem Over04_fn (A B C : Int) (x : Pt) (M : Mem) (h : halfB A B C = true) (hx : placeB x = true) : FnP Try.prog 13 [.agg #[.int .i64 A, .int .i64 B, .int .i64 C], ptv x] M [.int .i64 (ovr A B C x)] := by
  have hp := place_C hx
  unfold isC at hp
  simp only [halfB, Bool.and_eq_true, decide_eq_true_eq] at h
  have e1 := mul_bd (a := A) (b := x.1) 1000000 500000 (by omega) (by omega) (by omega) (by omega) (by omega) (by omega)
  have e2 := mul_bd (a := B) (b := x.2) 1000000 500000 (by omega) (by omega) (by omega) (by omega) (by omega) (by omega)
  refine Fn.of_vc cxOK Try.func13 rfl rfl rfl ?_
  repeat (first | refine VIf.tt ?_ | refine VIf.ff ?_)
  refine VArith.ok (by first | omega | (simp only; omega)) (by first | omega | (simp only; omega)) ?_
  repeat (first | refine VIf.tt ?_ | refine VIf.ff ?_)
  refine VArith.ok (by first | omega | (simp only; omega)) (by first | omega | (simp only; omega)) ?_
  repeat (first | refine VIf.tt ?_ | refine VIf.ff ?_)
  refine VArith.ok (by first | omega | (simp only; omega)) (by first | omega | (simp only; omega)) ?_
  repeat (first | refine VIf.tt ?_ | refine VIf.ff ?_)
  refine VArith.ok (by first | omega | (simp only; omega)) (by first | omega | (simp only; omega)) ?_
  repeat (first | refine VIf.tt ?_ | refine VIf.ff ?_)
  exact VFact.mk ⟨rfl, rfl⟩ trivial
theorem abs04_fn (n : Int) (M : Mem) (h : -1000000000000 ≤ n ∧ n ≤ 1000000000000) : FnP Try.prog 21 [.int .i64 n] M [.int .i64 (max n (-n))] := by
  refine Fn.of_vc cxOK Try.func21 rfl rfl rfl ?_
  repeat (first | refine VIf.tt ?_ | refine VIf.ff ?_)
  refine VArith.ok (by first | omega | (simp only; omega)) (by first | omega | (simp only; omega)) ?_
  repeat (first | refine VIf.tt ?_ | refine VIf.ff ?_)
  exact VFact.mk ⟨rfl, rfl⟩ trivial
theorem neg_any {z : Int} {K : Int → Prop} (h : i64r z) (hK : ∀ z', (z' = -z ∨ (z = -9223372036854775808 ∧ z' = z)) → K z') : VArith (-9223372036854775808) 9223372036854775807 .i64 (-z) K := by
  have wmin : IntKind.wrap .i64 (- -9223372036854775808) = -9223372036854775808 := by decide
  unfold i64r at h
  by_cases hz : z = -9223372036854775808
  · repeat (first | refine VIf.tt ?_ | refine VIf.ff ?_)
    refine VArith.wr ?_
    rw [hz, wmin]
    exact hK _ (.inr ⟨hz, hz.symm⟩)
  · repeat (first | refine VIf.tt ?_ | refine VIf.ff ?_)
    exact VArith.ok (by omega) (by omega) (hK _ (.inl rfl))
theorem half_neg {A B C A' B' C' : Int} (hA : A' = -A ∨ (A = -9223372036854775808 ∧ A' = A)) (hB : B' = -B ∨ (B = -9223372036854775808 ∧ B' = B)) (hC : C' = -C ∨ (C = -9223372036854775808 ∧ C' = C)) :
    halfB A' B' C' = halfB A B C ∧ (halfB A B C = true → A' = -A ∧ B' = -B ∧ C' = -C) := by
  have e : ∀ {A B C : Int}, halfB A B C = decide ((-1000000 ≤ A ∧ A ≤ 1000000) ∧ (-1000000 ≤ B ∧ B ≤ 1000000) ∧ (-1000000000000 ≤ C ∧ C ≤ 1000000000000) ∧ ¬ (A = 0 ∧ B = 0)) := fun {A B C} => by
    rw [Bool.eq_iff_iff]
    simp only [halfB, Bool.and_eq_true, Bool.not_eq_true', Bool.and_eq_false_iff, decide_eq_true_eq, decide_eq_false_iff_not]
    omega
  rw [e, e]
  refine ⟨decide_eq_decide.2 (by omega), fun h => ?_⟩
  have h := of_decide_eq_true h
  omega
theorem half_ne {A B C : Int} (h : halfB A B C = true) : ¬ (A = 0 ∧ B = 0) := by
  simp only [halfB, Bool.and_eq_true, Bool.not_eq_true', Bool.and_eq_false_iff, decide_eq_true_eq, decide_eq_false_iff_not] at h
  omega
/-- What Has says. -/
theorem HasE_fn {v : Value} {ps : List Pt} {x : Pt} {M : Mem} (hv : Pts M v ps) (h64 : i64P ps) (hx : i64r x.1 ∧ i64r x.2) : V.Fn Try.prog 11 [v, ptv x] M fun rs _ => rs = [.bool (hasE ps x).1, .int .i64 (hasE ps x).2] := hasB_is hv h64 hx rfl
theorem arC_64 {l : List Pt} (hP : ∀ x ∈ l, placeB x = true) : i64P (arC l) := by
  by_cases e : l = []
  · subst e; exact fun i hi => by cases hi
  · exact mem_64 (valid_mem (arC_valid e hP))
theorem hasE_bad {ps : List Pt} {x : Pt} (h : (validB ps && placeB x) = false) : hasE ps x = (false, 1) := by
  unfold hasE; rw [if_neg (by rw [h]; decide)]
theorem cut_side {ps : List Pt} {A B C : Int} {x : Pt} (hV : validB ps = true) (hH : halfB A B C = true) (hx : placeB x = true) (hin : hasB ps x = true) (ho : ovr A B C x ≤ 0) : hasE (arC (cutA ps A B C)) x = (true, 0) := by
  have hl := cut_in hV (half_ne hH) hin ho
  have hP := cut_place hV A B C
  exact hasE_is (arC_valid (lin_ne hl) hP) hx (arC_has hP hl)
end Go.Proofs.Ytlihojecopfgfaa

/- Package cut, plainly: at most two sides of a polygon cross a line; what is left of a polygon with at most 50 corners is a hull, near the half-plane. -/
namespace Go.Proofs.Ytlihojecopfgfaa
open Go
theorem plucker (i a b c d : Pt) : crossP i a c * crossP i b d = crossP i a b * crossP i c d + crossP i a d * crossP i b c := by unfold crossP cross; grind
theorem four_aff (i j k l : Pt) (A B C : Int) : crossP j k l * ovr A B C i + crossP i j l * ovr A B C k = crossP i k l * ovr A B C j + crossP i j k * ovr A B C l := by unfold crossP cross ovr; grind
theorem pos_of_prod {x y : Int} (hx : 0 < x) (h : 0 < x * y) : 0 < y := by
  refine Int.not_le.1 fun hy => ?_
  have := Int.mul_nonneg (Int.le_of_lt hx) (show 0 ≤ -y by omega)
  rw [Int.mul_neg] at this
  omega
/-- Corners in their order turn to the left. -/
theorem left_turn {p : List Pt} (h : validB p = true) {i j : Nat} (hij : i < j) : ∀ m, j + 1 + m < p.length → 0 < crossP (gp p i) (gp p j) (gp p (j + 1 + m)) := by
  have base : ∀ {i k : Nat}, i < k → k + 1 < p.length → 0 < crossP (gp p i) (gp p k) (gp p (k + 1)) := fun {i k} hik hk => by
    have := strict_side h (by omega) (i := k) (k := i) (by omega) (by omega) (by omega) (by rw [Nat.mod_eq_of_lt hk]; omega)
    rw [Nat.mod_eq_of_lt hk, cross_rot] at this
    exact this
  have side : ∀ {i k : Nat}, i + 1 < k → k < p.length → 0 < crossP (gp p i) (gp p (i + 1)) (gp p k) := fun {i k} hik hk => by
    have := strict_side h (by omega) (i := i) (k := k) (by omega) hk (by omega) (by rw [Nat.mod_eq_of_lt (by omega)]; omega)
    rw [Nat.mod_eq_of_lt (by omega)] at this
    exact this
  intro m
  induction m with
  | zero => intro hk; exact base hij hk
  | succ m ih =>
    intro hk
    by_cases e : j = i + 1
    · subst e; exact side (by omega) (by omega)
    · have h1 := side (i := i) (k := j + 1 + m) (by omega) (by omega)
      have h2 := side (i := i) (k := j) (by omega) (by omega)
      have h3 := base (i := i) (k := j + 1 + m) (by omega) (by omega)
      have h4 := side (i := i) (k := j + 1 + m + 1) (by omega) (by omega)
      have h5 := ih (by omega)
      have e := plucker (gp p i) (gp p (i + 1)) (gp p j) (gp p (j + 1 + m)) (gp p (j + 1 + m + 1))
      have a1 := Int.mul_pos h2 h3
      have a2 := Int.mul_pos h4 h5
      refine pos_of_prod h1 ?_
      rw [show j + 1 + (m + 1) = j + 1 + m + 1 by omega]
      omega
theorem left3 {p : List Pt} (h : validB p = true) {i j k : Nat} (h1 : i < j) (h2 : j < k) (h3 : k < p.length) : 0 < crossP (gp p i) (gp p j) (gp p k) := by
  have := left_turn h h1 (k - j - 1) (by omega)
  rwa [show j + 1 + (k - j - 1) = k by omega] at this
theorem no_four {p : List Pt} (h : validB p = true) {A B C : Int} {i j k l : Nat} (h1 : i < j) (h2 : j < k) (h3 : k < l) (h4 : l < p.length) :
    ¬ (0 < ovr A B C (gp p i) ∧ ovr A B C (gp p j) < 0 ∧ 0 < ovr A B C (gp p k) ∧ ovr A B C (gp p l) < 0) ∧ ¬ (ovr A B C (gp p i) < 0 ∧ 0 < ovr A B C (gp p j) ∧ ovr A B C (gp p k) < 0 ∧ 0 < ovr A B C (gp p l)) := by
  have c1 := left3 h h2 h3 h4
  have c2 := left3 h h1 (show j < l by omega) h4
  have c3 := left3 h (show i < k by omega) h3 h4
  have c4 := left3 h h1 h2 (show k < p.length by omega)
  have e := four_aff (gp p i) (gp p j) (gp p k) (gp p l) A B C
  constructor
  · rintro ⟨g1, g2, g3, g4⟩
    have a1 := Int.mul_pos c1 g1
    have a2 := Int.mul_pos c2 g3
    have a3 := Int.mul_neg_of_pos_of_neg c3 g2
    have a4 := Int.mul_neg_of_pos_of_neg c4 g4
    omega
  · rintro ⟨g1, g2, g3, g4⟩
    have a1 := Int.mul_neg_of_pos_of_neg c1 g1
    have a2 := Int.mul_neg_of_pos_of_neg c2 g3
    have a3 := Int.mul_pos c3 g2
    have a4 := Int.mul_pos c4 g4
    omega
def upB (p : List Pt) (A B C : Int) (i : Nat) : Bool := decide (ovr A B C (gp p i) < 0) && decide (0 < ovr A B C (nx p i))
def dnB (p : List Pt) (A B C : Int) (i : Nat) : Bool := decide (0 < ovr A B C (gp p i)) && decide (ovr A B C (nx p i) < 0)
theorem nx_lt {p : List Pt} {i : Nat} (h : i + 1 < p.length) : nx p i = gp p (i + 1) := by unfold nx; rw [Nat.mod_eq_of_lt h]
theorem nx_last {p : List Pt} {i : Nat} (h : i + 1 = p.length) : nx p i = gp p 0 := by unfold nx; rw [h, Nat.mod_self]
theorem one_up {p : List Pt} (h : validB p = true) {A B C : Int} {i j : Nat} (hij : i < j) (hj : j < p.length) (hi : upB p A B C i = true) (hu : upB p A B C j = true) : False := by
  simp only [upB, Bool.and_eq_true, decide_eq_true_eq] at hi hu
  rw [nx_lt (by omega)] at hi
  have hne : i + 1 ≠ j := fun e => by rw [e] at hi; omega
  by_cases e : j + 1 = p.length
  · rw [nx_last e] at hu
    have hi0 : i ≠ 0 := fun e => by rw [e] at hi; omega
    exact (no_four h (A := A) (B := B) (C := C) (i := 0) (j := i) (k := i + 1) (l := j) (by omega) (by omega) (by omega) hj).1 ⟨hu.2, hi.1, hi.2, hu.1⟩
  · rw [nx_lt (by omega)] at hu
    exact (no_four h (A := A) (B := B) (C := C) (i := i) (j := i + 1) (k := j) (l := j + 1) (by omega) (by omega) (by omega) (by omega)).2 ⟨hi.1, hi.2, hu.1, hu.2⟩
theorem one_dn {p : List Pt} (h : validB p = true) {A B C : Int} {i j : Nat} (hij : i < j) (hj : j < p.length) (hi : dnB p A B C i = true) (hu : dnB p A B C j = true) : False := by
  have e : ∀ k, ovr (-A) (-B) (-C) k = -ovr A B C k := fun k => by unfold ovr; grind
  refine one_up h (A := -A) (B := -B) (C := -C) hij hj ?_ ?_
  · simp only [upB, dnB, e, Bool.and_eq_true, decide_eq_true_eq] at *; omega
  · simp only [upB, dnB, e, Bool.and_eq_true, decide_eq_true_eq] at *; omega
theorem filter_one {P : Nat → Bool} {n : Nat} (h : ∀ i j, i < j → j < n → P i = true → P j = true → False) : ∀ k, k ≤ n → ((List.range k).filter P).length ≤ 1
  | 0, _ => by simp
  | k + 1, hk => by
    have ih := filter_one h k (by omega)
    rw [List.range_succ, List.filter_append, List.length_append]
    by_cases hp : P k = true
    · have : (List.range k).filter P = [] := List.filter_eq_nil_iff.2 fun i hi hpi => h i k (List.mem_range.1 hi) (by omega) hpi hp
      rw [this]; simp [hp]
    · simp [hp]; exact ih
theorem cut_count (p : List Pt) (A B C : Int) : ∀ k, (cutL p A B C k).length ≤ k + 4 * ((List.range k).filter (upB p A B C)).length + 4 * ((List.range k).filter (dnB p A B C)).length
  | 0 => by simp [cutL]
  | k + 1 => by
    have ih := cut_count p A B C k
    rw [cutL_step, List.range_succ, List.filter_append, List.filter_append, List.length_append, List.length_append, List.length_append]
    have hk : (keepL p A B C k).length ≤ 1 + 4 * ([k].filter (upB p A B C)).length + 4 * ([k].filter (dnB p A B C)).length := by
      unfold keepL
      rw [List.length_append]
      have h1 : (if ovr A B C (gp p k) ≤ 0 then [gp p k] else []).length ≤ 1 := by split <;> simp
      have h2 : (if crossesB (ovr A B C (gp p k)) (ovr A B C (nx p k)) = true then frameP (gp p k) (nx p k) (ovr A B C (gp p k)) (ovr A B C (nx p k)) else []).length ≤ 4 * ([k].filter (upB p A B C)).length + 4 * ([k].filter (dnB p A B C)).length := by
        split
        · rename_i hc
          rcases crosses_iff.1 hc with hc | hc
          · have : upB p A B C k = true := by simp only [upB, Bool.and_eq_true, decide_eq_true_eq]; exact hc
            simp [this, frameP]
          · have : dnB p A B C k = true := by simp only [dnB, Bool.and_eq_true, decide_eq_true_eq]; exact hc
            simp [this, frameP]
        · simp
      omega
    omega
theorem cut_few {p : List Pt} (h : validB p = true) (A B C : Int) : (cutA p A B C).length ≤ p.length + 8 := by
  have h1 := cut_count p A B C p.length
  have h2 := filter_one (P := upB p A B C) (n := p.length) (fun i j hij hj => one_up h hij hj) p.length (Nat.le_refl _)
  have h3 := filter_one (P := dnB p A B C) (n := p.length) (fun i j hij hj => one_dn h hij hj) p.length (Nat.le_refl _)
  unfold cutA; omega
/-- At most 50 corners: what is left has no other corners than what is kept. -/
theorem left_sub {p : List Pt} (h : validB p = true) (h50 : p.length ≤ 50) (A B C : Int) : ∀ y ∈ arC (cutA p A B C), y ∈ cutA p A B C := by
  intro y hy
  have hf := cut_few h A B C
  unfold arC at hy
  by_cases e : cutA p A B C = []
  · rw [if_pos e] at hy; cases hy
  · have hl := hl_len (around_hl e)
    rw [if_neg e, if_pos ⟨by omega, by omega⟩] at hy
    exact (around_hl e).sub y hy
theorem near_half {p : List Pt} {A B C : Int} : ∀ y ∈ cutA p A B C, ovr A B C y ≤ max A (-A) + max B (-B) := by
  intro y hy
  obtain ⟨i, hi, hy⟩ := mem_cutA.1 hy
  rcases mem_keepL.1 hy with ⟨h, rfl⟩ | ⟨hc, hy⟩
  · omega
  · obtain ⟨r, r0, r1, hr⟩ := cut_at hc
    obtain ⟨⟨n1, n2⟩, n3, n4⟩ := frame_near hc hr hy
    have ew : (A : Rat) * (segQ (gp p i) (nx p i) r).1 + B * (segQ (gp p i) (nx p i) r).2 - C = 0 := by
      have : (A : Rat) * (segQ (gp p i) (nx p i) r).1 + B * (segQ (gp p i) (nx p i) r).2 - C = (1 - r) * ((ovr A B C (gp p i) : Int) : Rat) + r * ((ovr A B C (nx p i) : Int) : Rat) := by
        unfold segQ mvP vecQ q2 ovr; push_cast; grind
      rw [this]; exact hr
    have bd : ∀ {a : Int} {d : Rat}, -1 < d → d < 1 → (a : Rat) * d ≤ ((max a (-a) : Int) : Rat) := fun {a d} h1 h2 => by
      by_cases ha : 0 ≤ a
      · have := Rat.mul_nonneg (castQ_nonneg.2 ha) (show 0 ≤ 1 - d by grind)
        rw [show max a (-a) = a by omega]
        grind
      · have := Rat.mul_nonneg (castQ_nonneg.2 (show 0 ≤ -a by omega)) (show 0 ≤ 1 + d by grind)
        rw [show max a (-a) = -a by omega]
        push_cast at *
        grind
    have b1 := bd (a := A) n1 n2
    have b2 := bd (a := B) n3 n4
    have key : ((ovr A B C y : Int) : Rat) ≤ ((max A (-A) + max B (-B) : Int) : Rat) := by
      rw [Rat.intCast_add]
      unfold ovr; push_cast at *; grind
    exact_mod_cast key
end Go.Proofs.Ytlihojecopfgfaa

/- CutKeeps: each place that a polygon and a half-plane have is in what is left; no corner of that is farther than 1 in X and in Y from the half-plane, or out of the rectangle of the polygon. No conditions beyond the statement's own. -/
namespace Go.Proofs.Ytlihojecopfgfaa.cutKeeps
open Go Go.V Go.RowKit
theorem box_all {p : List Pt} (hp : validB p = true) : ∀ x ∈ p, (boxLo p).1 ≤ x.1 ∧ x.1 ≤ (boxHi p).1 ∧ (boxLo p).2 ≤ x.2 ∧ x.2 ≤ (boxHi p).2 := fun x hx => by
  have h := b8_has (len_one hp).1 x hx
  exact ⟨h.1, h.2.1, h.2.2.1, h.2.2.2.1⟩
theorem len_arC {l : List Pt} (hP : ∀ x ∈ l, placeB x = true) : (0 < (arC l).length ↔ 0 < l.length) ∧ (0 < l.length → validB (arC l) = true) ∧ (arC l).length ≤ 64 := by
  by_cases e : l = []
  · have e2 : arC l = [] := by unfold arC; rw [if_pos e]
    rw [e2, e]
    exact ⟨Iff.rfl, fun h => absurd h (by decide), by decide⟩
  · have hv := arC_valid e hP
    have := len_one hv
    exact ⟨⟨fun _ => ne_len e, fun _ => this.1⟩, fun _ => hv, this.2⟩
set_option maxRecDepth 20000 in
set_option maxHeartbeats 4000000 in
theorem law_gen (v : Value) (ps : List Pt) (A B C : Int) (x : Pt) (M : Mem) (hv : Pts M v ps) (h64 : i64P ps) (hA : i64r A) (hB : i64r B) (hC : i64r C) (hx : i64r x.1 ∧ i64r x.2) :
    V.Fn Try.prog 7 [v, .agg #[.int .i64 A, .int .i64 B, .int .i64 C], pt x.1 x.2] M fun rs _ => rs = [.bool true] := by
  obtain ⟨ad, c, rfl⟩ := hv.shape
  refine Fn.of_vc cxOK Try.func7 rfl rfl rfl ?_
  repeat (first | refine VIf.tt ?_ | refine VIf.ff ?_)
  refine VFn.mk _ (head04_fn M) ?_
  rintro rs M1 hM1 rfl
  repeat (first | refine VIf.tt ?_ | refine VIf.ff ?_)
  refine VIf.mk (fun _ => ?_) (fun h50 => ?_)
  · repeat (first | refine VIf.tt ?_ | refine VIf.ff ?_)
    exact VFact.mk rfl trivial
  have h50 : ps.length ≤ 50 := by have := of_decide_eq_false h50; omega
  by_cases hg : (validB ps && halfB A B C) = true
  rotate_left
  · repeat (first | refine VIf.tt ?_ | refine VIf.ff ?_)
    refine VFn.mk _ (Cut_err (hv.le hM1) h64 (by simpa using hg)) ?_
    rintro rs M2 hM2 rfl
    repeat (first | refine VIf.tt ?_ | refine VIf.ff ?_)
    exact VFact.mk rfl trivial
  obtain ⟨hV, hH⟩ := Bool.and_eq_true _ _ ▸ hg
  have hcp := cut_place hV A B C
  have hAB : (-1000000 ≤ A ∧ A ≤ 1000000) ∧ -1000000 ≤ B ∧ B ≤ 1000000 := by
    simp only [halfB, Bool.and_eq_true, decide_eq_true_eq] at hH
    omega
  obtain ⟨so, hso⟩ : ∃ b, decide (0 < (cutA ps A B C).length) = b := ⟨_, rfl⟩
  obtain ⟨l1, l2, l3⟩ := len_arC hcp
  have hbox := fun y hy => cut_box (A := A) (B := B) (C := C) (box_all hV) y (left_sub hV h50 A B C y hy)
  have hnear := fun y hy => near_half (p := ps) (A := A) (B := B) (C := C) y (left_sub hV h50 A B C y hy)
  have hpl := fun y hy => hcp y (left_sub hV h50 A B C y hy)
  have m64 := arC_64 hcp
  have hside := fun h1 h2 h3 => cut_side (x := x) hV hH h1 h2 h3
  have hpos := fun h1 (h2 : ovr A B C x ≤ 0) => ne_len (lin_ne (cut_in (x := x) hV (half_ne hH) h1 h2))
  repeat (first | refine VIf.tt ?_ | refine VIf.ff ?_)
  refine VFn.mk _ (Cut_is (hv.le hM1) h64 hV hH rfl hso) ?_
  rintro rs M2 hM2 ⟨u, rfl, hu⟩
  have m2 := hM1.trans hM2
  generalize arC (cutA ps A B C) = mm at *
  have hu : Pts M2 u mm := hu
  obtain ⟨ud, uc, rfl⟩ := hu.shape
  obtain ⟨_, _, hrdu⟩ := hu.cellsOf
  repeat (first | refine VIf.tt ?_ | refine VIf.ff ?_)
  refine VFn.mk _ (Box_is (hv.le m2) h64 hV rfl rfl) ?_
  rintro rs M3 hM3 rfl
  have m3 := m2.trans hM3
  have hlen : (so != decide ((mm.length : Int) > 0)) = false := by
    rw [← hso]
    by_cases h : 0 < (cutA ps A B C).length
    · rw [decide_eq_true h, decide_eq_true (by have := l1.2 h; omega)]; rfl
    · rw [decide_eq_false h, decide_eq_false (by have := mt l1.1 h; omega)]; rfl
  repeat (first | refine VIf.tt ?_ | refine VIf.ff ?_)
  refine VIf.mk (fun e => absurd (hlen.symm.trans e) (by decide)) (fun _ => ?_)
  repeat (first | refine VIf.tt ?_ | refine VIf.ff ?_)
  refine VIf.mk (fun e => ?_) (fun e => ?_)
  · subst e
    repeat (first | refine VIf.tt ?_ | refine VIf.ff ?_)
    refine VFn.mk _ (Valid_is (hu.le hM3) m64 (l2 (of_decide_eq_true hso))) ?_
    rintro rs M4 hM4 rfl
    repeat (first | refine VIf.tt ?_ | refine VIf.ff ?_)
    refine VCode.loop cxOK (Nat × Bool) (fun s => ⟨[(0, .v (.slice ad ps.length c)), (4, .box 0 0), (5, .box 1 0), (7, .v (.bool s.2)), (8, .v (.slice ud mm.length uc)), (9, .v (.bool true)), (11, .box 2 0), (12, .box 3 0), (73, .v (.slice ud mm.length uc)), (74, .v (.int .i64 mm.length)), (75, .v (.int .i64 s.1))], [(3, some (.box 26 [.v (.int .i64 (boxHi ps).1), .v (.int .i64 (boxHi ps).2)])), (2, some (.box 26 [.v (.int .i64 (boxLo ps).1), .v (.int .i64 (boxLo ps).2)])), (1, some (.box 26 [.v (.int .i64 x.1), .v (.int .i64 x.2)])), (0, some (.box 24 [.v (.int .i64 A), .v (.int .i64 B), .v (.int .i64 C)]))], 4, M4, 166, ⟨fun _ => none, none, fun _ => none⟩⟩)
      (fun s => s.1 ≤ mm.length ∧ s.2 = true) (fun s => mm.length - s.1) (0, true) ⟨Nat.zero_le _, rfl⟩ (Wk.mk' id (by repeat' constructor) (by repeat' constructor) (injOK_id _) rfl rfl rfl) ?_
    rintro ⟨j, up⟩ ⟨hj, hup⟩ m
    simp only at hj hup
    subst hup
    repeat (first | refine VIf.tt ?_ | refine VIf.ff ?_)
    refine VIf.mk (fun hlj => ?_) (fun hgj => ?_)
    · have hlj : j < mm.length := by have := of_decide_eq_true hlj; simp only at this; omega
      obtain ⟨ad', rfl, hp⟩ := hrdu M4 (hM3.trans hM4) j hlj
      have hy := hbox _ (gp_mem hlj)
      have hn := hnear _ (gp_mem hlj)
      have hl := hpl _ (gp_mem hlj)
      repeat (first | refine VIf.tt ?_ | refine VIf.ff ?_)
      refine VIdx.mk ad' j rfl rfl hlj ?_
      repeat (first | refine VIf.tt ?_ | refine VIf.ff ?_)
      refine VReads.mk [.int .i64 (gp mm j).1, .int .i64 (gp mm j).2] rfl hp ?_
      repeat (first | refine VIf.tt ?_ | refine VIf.ff ?_)
      refine VDraw.go (by kernel_rfl) ?_
      repeat (first | refine VIf.tt ?_ | refine VIf.ff ?_)
      refine VIf.mk (fun _ => ?_) (fun e => absurd (of_decide_eq_false e) (by omega))
      repeat (first | refine VIf.tt ?_ | refine VIf.ff ?_)
      refine VIf.mk (fun _ => ?_) (fun e => absurd (of_decide_eq_false e) (by omega))
      repeat (first | refine VIf.tt ?_ | refine VIf.ff ?_)
      refine VIf.mk (fun _ => ?_) (fun e => absurd (of_decide_eq_false e) (by omega))
      repeat (first | refine VIf.tt ?_ | refine VIf.ff ?_)
      refine VIf.mk (fun _ => ?_) (fun e => absurd (of_decide_eq_false e) (by omega))
      repeat (first | refine VIf.tt ?_ | refine VIf.ff ?_)
      refine VFn.p (Over04_fn A B C (gp mm j) _ hH hl) ?_
      repeat (first | refine VIf.tt ?_ | refine VIf.ff ?_)
      refine VFn.p (abs04_fn A _ (by omega)) ?_
      repeat (first | refine VIf.tt ?_ | refine VIf.ff ?_)
      refine VFn.p (abs04_fn B _ (by omega)) ?_
      repeat (first | refine VIf.tt ?_ | refine VIf.ff ?_)
      refine VArith.ok (by first | omega | (simp only; omega)) (by first | omega | (simp only; omega)) ?_
      repeat (first | refine VIf.tt ?_ | refine VIf.ff ?_)
      refine VArith.ok (by first | omega | (simp only; omega)) (by first | omega | (simp only; omega)) ?_
      exact ⟨(j + 1, decide (ovr A B C (gp mm j) ≤ max A (-A) + max B (-B))), ⟨hlj, decide_eq_true hn⟩, by simp only; omega, (Wk.mk' id (by repeat' constructor) (by repeat' constructor) (injOK_id _) rfl rfl rfl)⟩
    · have m4 := m3.trans hM4
      by_cases hpx : placeB x = true
      rotate_left
      · have hpx : placeB x = false := by simpa using hpx
        repeat (first | refine VIf.tt ?_ | refine VIf.ff ?_)
        refine VFn.mk _ (hasB_is (x := x) (hv.le m4) h64 hx (hasE_bad (by rw [hpx, Bool.and_false]))) ?_
        rintro rs M5 hM5 rfl
        have FI := In_fn A B C x M5
        rw [hpx, Bool.and_false] at FI
        repeat (first | refine VIf.tt ?_ | refine VIf.ff ?_)
        refine VFn.mk _ FI ?_
        rintro rs M6 hM6 rfl
        repeat (first | refine VIf.tt ?_ | refine VIf.ff ?_)
        exact VFact.mk rfl trivial
      repeat (first | refine VIf.tt ?_ | refine VIf.ff ?_)
      refine VFn.mk _ (hasB_is (x := x) (hv.le m4) h64 hx (hasE_is hV hpx rfl)) ?_
      rintro rs M5 hM5 rfl
      have FI := In_fn A B C x M5
      rw [hH, hpx] at FI
      repeat (first | refine VIf.tt ?_ | refine VIf.ff ?_)
      refine VFn.mk _ FI ?_
      rintro rs M6 hM6 rfl
      repeat (first | refine VIf.tt ?_ | refine VIf.ff ?_)
      refine VIf.mk (fun c1 => ?_) (fun c1 => ?_)
      · repeat (first | refine VIf.tt ?_ | refine VIf.ff ?_)
        exact VFact.mk rfl trivial
      repeat (first | refine VIf.tt ?_ | refine VIf.ff ?_)
      refine VIf.mk (fun c2 => ?_) (fun c2 => ?_)
      · repeat (first | refine VIf.tt ?_ | refine VIf.ff ?_)
        exact VFact.mk rfl trivial
      have c2 : ovr A B C x ≤ 0 := of_decide_eq_true ((Bool.not_eq_false' _).mp c2)
      have hin := hside hpx ((Bool.not_eq_false' _).mp c1) c2
      have hps := hpos ((Bool.not_eq_false' _).mp c1) c2
      rw [decide_eq_true (show 0 < (cutA ps A B C).length from hps)] at hso
      first
      | exact absurd hso (by decide)
      | refine VFn.mk _ (hasB_is (x := x) (hu.le (hM3.trans (Mem.le.trans hM4 (hM5.trans hM6)))) m64 hx hin) ?_
        rintro rs M7 hM7 rfl
        repeat (first | refine VIf.tt ?_ | refine VIf.ff ?_)
        exact VFact.mk rfl trivial
  · subst e
    repeat (first | refine VIf.tt ?_ | refine VIf.ff ?_)
    refine VCode.loop cxOK (Nat × Bool) (fun s => ⟨[(0, .v (.slice ad ps.length c)), (4, .box 0 0), (5, .box 1 0), (7, .v (.bool s.2)), (8, .v (.slice ud mm.length uc)), (9, .v (.bool false)), (11, .box 2 0), (12, .box 3 0), (73, .v (.slice ud mm.length uc)), (74, .v (.int .i64 mm.length)), (75, .v (.int .i64 s.1))], [(3, some (.box 26 [.v (.int .i64 (boxHi ps).1), .v (.int .i64 (boxHi ps).2)])), (2, some (.box 26 [.v (.int .i64 (boxLo ps).1), .v (.int .i64 (boxLo ps).2)])), (1, some (.box 26 [.v (.int .i64 x.1), .v (.int .i64 x.2)])), (0, some (.box 24 [.v (.int .i64 A), .v (.int .i64 B), .v (.int .i64 C)]))], 4, M3, 166, ⟨fun _ => none, none, fun _ => none⟩⟩)
      (fun s => s.1 ≤ mm.length ∧ s.2 = true) (fun s => mm.length - s.1) (0, true) ⟨Nat.zero_le _, rfl⟩ (Wk.mk' id (by repeat' constructor) (by repeat' constructor) (injOK_id _) rfl rfl rfl) ?_
    rintro ⟨j, up⟩ ⟨hj, hup⟩ m
    simp only at hj hup
    subst hup
    repeat (first | refine VIf.tt ?_ | refine VIf.ff ?_)
    refine VIf.mk (fun hlj => ?_) (fun hgj => ?_)
    · have hlj : j < mm.length := by have := of_decide_eq_true hlj; simp only at this; omega
      obtain ⟨ad', rfl, hp⟩ := hrdu M3 (hM3.trans (Mem.le_refl M3)) j hlj
      have hy := hbox _ (gp_mem hlj)
      have hn := hnear _ (gp_mem hlj)
      have hl := hpl _ (gp_mem hlj)
      repeat (first | refine VIf.tt ?_ | refine VIf.ff ?_)
      refine VIdx.mk ad' j rfl rfl hlj ?_
      repeat (first | refine VIf.tt ?_ | refine VIf.ff ?_)
      refine VReads.mk [.int .i64 (gp mm j).1, .int .i64 (gp mm j).2] rfl hp ?_
      repeat (first | refine VIf.tt ?_ | refine VIf.ff ?_)
      refine VDraw.go (by kernel_rfl) ?_
      repeat (first | refine VIf.tt ?_ | refine VIf.ff ?_)
      refine VIf.mk (fun _ => ?_) (fun e => absurd (of_decide_eq_false e) (by omega))
      repeat (first | refine VIf.tt ?_ | refine VIf.ff ?_)
      refine VIf.mk (fun _ => ?_) (fun e => absurd (of_decide_eq_false e) (by omega))
      repeat (first | refine VIf.tt ?_ | refine VIf.ff ?_)
      refine VIf.mk (fun _ => ?_) (fun e => absurd (of_decide_eq_false e) (by omega))
      repeat (first | refine VIf.tt ?_ | refine VIf.ff ?_)
      refine VIf.mk (fun _ => ?_) (fun e => absurd (of_decide_eq_false e) (by omega))
      repeat (first | refine VIf.tt ?_ | refine VIf.ff ?_)
      refine VFn.p (Over04_fn A B C (gp mm j) _ hH hl) ?_
      repeat (first | refine VIf.tt ?_ | refine VIf.ff ?_)
      refine VFn.p (abs04_fn A _ (by omega)) ?_
      repeat (first | refine VIf.tt ?_ | refine VIf.ff ?_)
      refine VFn.p (abs04_fn B _ (by omega)) ?_
      repeat (first | refine VIf.tt ?_ | refine VIf.ff ?_)
      refine VArith.ok (by first | omega | (simp only; omega)) (by first | omega | (simp only; omega)) ?_
      repeat (first | refine VIf.tt ?_ | refine VIf.ff ?_)
      refine VArith.ok (by first | omega | (simp only; omega)) (by first | omega | (simp only; omega)) ?_
      exact ⟨(j + 1, decide (ovr A B C (gp mm j) ≤ max A (-A) + max B (-B))), ⟨hlj, decide_eq_true hn⟩, by simp only; omega, (Wk.mk' id (by repeat' constructor) (by repeat' constructor) (injOK_id _) rfl rfl rfl)⟩
    · have m4 := m3.trans (Mem.le_refl M3)
      by_cases hpx : placeB x = true
      rotate_left
      · have hpx : placeB x = false := by simpa using hpx
        repeat (first | refine VIf.tt ?_ | refine VIf.ff ?_)
        refine VFn.mk _ (hasB_is (x := x) (hv.le m4) h64 hx (hasE_bad (by rw [hpx, Bool.and_false]))) ?_
        rintro rs M5 hM5 rfl
        have FI := In_fn A B C x M5
        rw [hpx, Bool.and_false] at FI
        repeat (first | refine VIf.tt ?_ | refine VIf.ff ?_)
        refine VFn.mk _ FI ?_
        rintro rs M6 hM6 rfl
        repeat (first | refine VIf.tt ?_ | refine VIf.ff ?_)
        exact VFact.mk rfl trivial
      repeat (first | refine VIf.tt ?_ | refine VIf.ff ?_)
      refine VFn.mk _ (hasB_is (x := x) (hv.le m4) h64 hx (hasE_is hV hpx rfl)) ?_
      rintro rs M5 hM5 rfl
      have FI := In_fn A B C x M5
      rw [hH, hpx] at FI
      repeat (first | refine VIf.tt ?_ | refine VIf.ff ?_)
      refine VFn.mk _ FI ?_
      rintro rs M6 hM6 rfl
      repeat (first | refine VIf.tt ?_ | refine VIf.ff ?_)
      refine VIf.mk (fun c1 => ?_) (fun c1 => ?_)
      · repeat (first | refine VIf.tt ?_ | refine VIf.ff ?_)
        exact VFact.mk rfl trivial
      repeat (first | refine VIf.tt ?_ | refine VIf.ff ?_)
      refine VIf.mk (fun c2 => ?_) (fun c2 => ?_)
      · repeat (first | refine VIf.tt ?_ | refine VIf.ff ?_)
        exact VFact.mk rfl trivial
      have c2 : ovr A B C x ≤ 0 := of_decide_eq_true ((Bool.not_eq_false' _).mp c2)
      have hin := hside hpx ((Bool.not_eq_false' _).mp c1) c2
      have hps := hpos ((Bool.not_eq_false' _).mp c1) c2
      rw [decide_eq_true (show 0 < (cutA ps A B C).length from hps)] at hso
      first
      | exact absurd hso (by decide)
      | refine VFn.mk _ (hasB_is (x := x) (hu.le (hM3.trans (Mem.le.trans (Mem.le_refl M3) (hM5.trans hM6)))) m64 hx hin) ?_
        rintro rs M7 hM7 rfl
        repeat (first | refine VIf.tt ?_ | refine VIf.ff ?_)
        exact VFact.mk rfl trivial
theorem law_fn (v : Value) (ps : List Pt) (A B C x y : Int) (M : Mem) (hv : Pts M v ps) (h64 : i64P ps) (hA : i64r A) (hB : i64r B) (hC : i64r C) (hx : i64r x) (hy : i64r y) :
    V.Fn Try.prog 7 [v, .agg #[.int .i64 A, .int .i64 B, .int .i64 C], .agg #[.int .i64 x, .int .i64 y]] M fun rs _ => rs = [.bool true] := law_gen v ps A B C (x, y) M hv h64 hA hB hC ⟨hx, hy⟩
end Go.Proofs.Ytlihojecopfgfaa.cutKeeps

namespace Go.Proofs.Ytlihojecopfgfaa.cutKeeps
open Go Go.V Go.RowKit Go.ChangeShapes Go.WideShapes Go.ChangeAt
set_option linter.unusedVariables false
set_option maxRecDepth 100000 in
theorem lifted (os : Os) (started : os.Started) (H : Type) (enc : TypeId × Value → H) :
    ReturnsInHanded {} Try.checked os 7 .any (Rows.cutKeepsSpec.pre6 enc Try.prog Try.f7 Rows.cutKeepsRow.domain false) (Rows.cutKeepsSpec.post enc Try.prog Try.f7 false true false false) := by
  refine returnsInHanded_of_change (C := Try.checked) own started (by kernel_rfl) Try.func7
    (ChangeSpec.witness6 (enc := enc) (C := Try.checked) false ⟨#[], #[.slice none 0 0, .agg #[.int .i64 0, .int .i64 0, .int .i64 0], .agg #[.int .i64 0, .int .i64 0]], []⟩ 8 (by kernel_rfl) (by kernel_rfl) (by kernel_rfl) (by kernel_rfl)) ?_
  intro W base args ds gs before hval0 hW hcnd _
  have hval : ∀ (j : Nat) t v, Try.f7.params[j]? = some t → args[j]? = some v → Value.okWide Try.prog W .any base t v := hval0
  have hW' := hW
  obtain ⟨p, q, hA0, hV, rfl, hfz, hnd⟩ := hW
  have hA : DataW.TrodAll enc Try.prog W 0 (fun _ => true) true Try.f7.params.toList args.toList ds p := hA0
  have hA1 := hA
  rw [Try.params7] at hA hval
  obtain ⟨v0, vs0, d0, ds0, p0, q0, hargs, rfl, rfl, h0, r0⟩ := trodAll_cons hA
  obtain ⟨v1, vs1, d1, ds1, p1, q1, rfl, rfl, rfl, h1, r1⟩ := trodAll_cons r0
  obtain ⟨v2, vs2, d2, ds2, p2, q2, rfl, rfl, rfl, h2, r2⟩ := trodAll_cons r1
  obtain ⟨rfl, rfl, rfl⟩ := trodAll_nil r2
  obtain rfl : args = #[v0, v1, v2] := by cases args; simp_all
  obtain ⟨rfl, rfl⟩ := trodVars_none hV
  obtain ⟨a0, len0, cap0, rfl⟩ := okWide_slice Try.underlying22 (hval 0 22 v0 rfl rfl)
  obtain ⟨fuel0, t0⟩ := h0
  obtain ⟨l0, ⟨u0, e0, g0, k0⟩, _⟩ := opens22 _ _ _ t0
  simp [Value.cells] at e0
  subst e0
  obtain ⟨ag1, rfl, _⟩ := okWide_struct Try.underlying24 (hval 1 24 v1 rfl rfl)
  obtain ⟨fuel1, t1⟩ := h1
  obtain ⟨l1, ⟨e1, k1, m1, g1⟩, _⟩ := opens24 _ _ _ t1
  obtain ⟨ag1⟩ := ag1
  have e1 : ag1 = _ := e1
  subst e1
  obtain ⟨ag2, rfl, _⟩ := okWide_struct Try.underlying26 (hval 2 26 v2 rfl rfl)
  obtain ⟨fuel2, t2⟩ := h2
  obtain ⟨l2, ⟨e2, k2, m2⟩, _⟩ := opens26 _ _ _ t2
  obtain ⟨ag2⟩ := ag2
  have e2 : ag2 = _ := e2
  subst e2
  simp only [List.append_nil] at hW' hA1
  refine ((law_fn (.slice a0 len0 cap0) l0 l1.1 l1.2.1 l1.2.2 l2.1 l2.2 (memOf W) g0 k0 (k1) (m1) (g1) (k2) (m2)).2 W (memOf_ok W)).mono fun e W' ⟨rs, M', he, hb, _, _, _, hr⟩ => ?_
  subst he hr
  exact ⟨_, rfl, post_of_below laid (by rw [Try.params7]; exact of_decide_eq_true (by kernel_rfl)) rfl hW' hA1
    (fun _ _ _ => (trodAll_cons_mk (shut_bool Try.underlying4 _) trodAll_mk0)) rfl rfl hb (ok_one (by kernel_rfl) rfl (okWide_bool_mk Try.underlying4 _))⟩

/-- The statement. -/
theorem proved : Rows.CutKeepsSaid :=
  OpenClaim.holds_of_wide 7 Try.f7 rfl rfl rfl rfl rfl rfl rfl ⟨rfl, rfl, rfl, rfl, rfl⟩ rfl rfl rfl rfl rfl (by kernel_rfl) Try.func7 (by kernel_rfl)
    (of_decide_eq_true (by kernel_rfl)) (by unfold Func.isWrapper; first | (rw [if_pos (by decide +kernel)]; kernel_rfl) | (rw [if_neg (by decide +kernel)]; exact ⟨rfl, rfl⟩))
    (fun os started H enc _ => lifted os started H enc)
#print axioms proved
end Go.Proofs.Ytlihojecopfgfaa.cutKeeps
