/- Contracts: comparisons of cases. -/
import Derived.Test.YtaobaeiohjgdcaaC9
namespace Go.Proofs.Ytaobaeiohjgdcaa
open Go Go.V Go.RowKit
def small (l : List Int) : Prop := ∀ i, i < l.length → -1000000 ≤ gi l i ∧ gi l i ≤ 1000000
theorem small_of {lo hi : Int} {l : List Int} (h : risingB lo hi l = true) (h1 : -1000000 ≤ lo) (h2 : hi ≤ 1000000) : small l := fun i hi' => by
  have := all_iff.1 h i hi'
  simp only [rise1, Bool.and_eq_true, decide_eq_true_eq] at this
  omega
theorem diffB_drop : ∀ (a b : List Int) (i : Nat), i ≤ a.length → i ≤ b.length → (∀ j, j < i → gi a j = gi b j) → diffB (a.drop i) (b.drop i) = diffB a b
  | _, _, 0, _, _, _ => by simp
  | [], _, i + 1, h, _, _ => by simp at h
  | _ :: _, [], i + 1, _, h, _ => by simp at h
  | x :: a, y :: b, i + 1, h1, h2, h => by
    have h0 := h 0 (by omega)
    simp only [gi, List.getD_cons_zero] at h0
    subst h0
    rw [List.drop_succ_cons, List.drop_succ_cons, diffB_drop a b i (by simpa using h1) (by simpa using h2) (fun j hj => by have := h (j + 1) (by omega); simpa [gi] using this)]
    simp [diffB]
theorem listsR_fn (v w : Value) (a b : List Int) (M : Mem) (hv : IntsV M v a) (hw : IntsV M w b) (ha : small a) (hb : small b) : FnP Try.prog 88 [v, w] M [.int .i64 (listsR a b)] := by
  obtain ⟨ad, c, rfl, hm, hrd⟩ := hv.get
  obtain ⟨bd, d, rfl, hm', hrd'⟩ := hw.get
  refine Fn.of_vc cxOK Try.func88 rfl rfl rfl ?_
  repeat (first | refine VIf.tt ?_ | refine VIf.ff ?_)
  refine VIf.mk (fun h0 => ?_) (fun h0 => ?_)
  · repeat (first | refine VIf.tt ?_ | refine VIf.ff ?_)
    refine VArith.ok (by first | omega | (simp only; omega)) (by first | omega | (simp only; omega)) ?_
    repeat (first | refine VIf.tt ?_ | refine VIf.ff ?_)
    refine VFact.mk ⟨?_, rfl⟩ trivial
    rw [listsR, if_pos (ne_of_bne h0)]
  have h0 : a.length = b.length := eq_of_bne h0
  rw [show listsR a b = diffB a b from if_neg (fun h => h h0)]
  repeat (first | refine VIf.tt ?_ | refine VIf.ff ?_)
  refine VCode.loop cxOK Nat (fun i => ⟨[(0, .v (.slice ad a.length c)), (1, .v (.slice bd b.length d)), (5, .v (.int .i64 i))], [], 0, M, 40, ⟨fun _ => none, none, fun _ => none⟩⟩)
    (fun i => i ≤ a.length ∧ i ≤ b.length ∧ ∀ j, j < i → gi a j = gi b j) (fun i => a.length - i) 0 ⟨Nat.zero_le _, Nat.zero_le _, fun j hj => by omega⟩ (Wk.mk' id (by repeat' constructor) (by repeat' constructor) (injOK_id _) rfl rfl rfl) ?_
  rintro i ⟨hi, hi', hz⟩ m
  have hl := diffB_drop a b i hi hi' hz
  repeat (first | refine VIf.tt ?_ | refine VIf.ff ?_)
  refine VIf.mk (fun hlt => ?_) (fun hge => ?_)
  · have hlt := lt_of_dec hlt
    have hlb : i < b.length := by omega
    obtain ⟨ad', rfl, _, hc1⟩ := hrd M (Mem.le_refl _) i hlt
    obtain ⟨bd', rfl, _, hc2⟩ := hrd' M (Mem.le_refl _) i hlb
    rw [drop_gi hlt, drop_gi hlb] at hl
    have s1 := ha i hlt
    have s2 := hb i hlb
    repeat (first | refine VIf.tt ?_ | refine VIf.ff ?_)
    refine VDraw.go (by kernel_rfl) ?_
    repeat (first | refine VIf.tt ?_ | refine VIf.ff ?_)
    refine VIdx.mk ad' i rfl rfl hlt ?_
    repeat (first | refine VIf.tt ?_ | refine VIf.ff ?_)
    refine VRead.mk _ hc1 ?_
    repeat (first | refine VIf.tt ?_ | refine VIf.ff ?_)
    refine VIdx.mk bd' i rfl rfl hlb ?_
    repeat (first | refine VIf.tt ?_ | refine VIf.ff ?_)
    refine VRead.mk _ hc2 ?_
    repeat (first | refine VIf.tt ?_ | refine VIf.ff ?_)
    refine VIf.mk (fun h1 => ?_) (fun h1 => ?_)
    · repeat (first | refine VIf.tt ?_ | refine VIf.ff ?_)
      refine VDraw.go (by kernel_rfl) ?_
      repeat (first | refine VIf.tt ?_ | refine VIf.ff ?_)
      refine VIdx.mk ad' i rfl rfl hlt ?_
      repeat (first | refine VIf.tt ?_ | refine VIf.ff ?_)
      refine VRead.mk _ hc1 ?_
      repeat (first | refine VIf.tt ?_ | refine VIf.ff ?_)
      refine VIdx.mk bd' i rfl rfl hlb ?_
      repeat (first | refine VIf.tt ?_ | refine VIf.ff ?_)
      refine VRead.mk _ hc2 ?_
      repeat (first | refine VIf.tt ?_ | refine VIf.ff ?_)
      refine VArith.ok (by first | omega | (simp only; omega)) (by first | omega | (simp only; omega)) ?_
      repeat (first | refine VIf.tt ?_ | refine VIf.ff ?_)
      refine VFact.mk ⟨?_, rfl⟩ trivial
      rw [← hl, diffB, if_pos (bne_iff_ne.1 h1)]
    · repeat (first | refine VIf.tt ?_ | refine VIf.ff ?_)
      refine VArith.ok (by first | omega | (simp only; omega)) (by first | omega | (simp only; omega)) ?_
      refine ⟨i + 1, ⟨hlt, hlb, fun j hj => ?_⟩, (by first | omega | (simp only; omega)), (Wk.mk' id (by repeat' constructor) (by repeat' constructor) (injOK_id _) rfl rfl rfl)⟩
      by_cases e : j = i
      · subst e; exact bne_eq_false_iff_eq.1 h1
      · exact hz j (by omega)
  · have : i = a.length := by have := ge_of_dec hge; omega
    subst this
    repeat (first | refine VIf.tt ?_ | refine VIf.ff ?_)
    refine VFact.mk ⟨?_, rfl⟩ trivial
    rw [List.drop_length] at hl
    rw [← hl]; simp [diffB]
theorem caseR_fn (x y : CaseS) (a b s a' b' s' : Value) (M : Mem) (h1 : IntsV M a x.sn) (h2 : IntsV M b x.cl) (h3 : IntsV M a' y.sn) (h4 : IntsV M b' y.cl) (g1 : small x.sn) (g2 : small x.cl) (g3 : small y.sn) (g4 : small y.cl)
    (_o1 : s.oneCell' = true) (_o2 : s'.oneCell' = true) : FnP Try.prog 53 [.agg #[a, b, s], .agg #[a', b', s']] M [.int .i64 (caseR x y)] := by
  refine Fn.of_vc cxOK Try.func53 rfl rfl rfl ?_
  repeat (first | refine VIf.tt ?_ | refine VIf.ff ?_)
  refine VFn.p (listsR_fn _ _ _ _ _ h1 h3 g1 g3) ?_
  repeat (first | refine VIf.tt ?_ | refine VIf.ff ?_)
  refine VIf.mk (fun h0 => ?_) (fun h0 => ?_)
  · repeat (first | refine VIf.tt ?_ | refine VIf.ff ?_)
    refine VFact.mk ⟨?_, rfl⟩ trivial
    rw [caseR, if_pos (bne_iff_ne.1 h0)]
  · repeat (first | refine VIf.tt ?_ | refine VIf.ff ?_)
    refine VFn.p (listsR_fn _ _ _ _ _ h2 h4 g2 g4) ?_
    repeat (first | refine VIf.tt ?_ | refine VIf.ff ?_)
    refine VFact.mk ⟨?_, rfl⟩ trivial
    rw [caseR, if_neg (fun h => h (bne_eq_false_iff_eq.1 h0))]
theorem one_get {xs : List Value} {off : Nat} {x : Value} (h : xs[off + 0]? = some x) : ∀ (j : Nat) (v : Value), [x][j]? = some v → xs[off + j]? = some v
  | 0, v, hj => by rw [← hj]; exact h
  | j + 1, v, hj => by simp at hj
theorem cellAt {M : Mem} {B : Nat} {cs : Array Value} {t : TypeId} (h : M B = some (.cells cs t (0, 0))) (j : Nat) {v : Value} (hv : cs[j]? = some v) : M.cell ((⟨B, 0, none⟩ : Addr).add j) = some v := by
  unfold Mem.cell Addr.add
  by_cases e : j = 0
  · subst e; simp only [if_true, h]; exact hv
  · simp only [e, if_false, h, Nat.zero_add]; exact hv
theorem case1_fn (x y : CaseS) (B B' : Nat) (a b s a' b' s' : Value) (M : Mem) (hB : M B = some (.cells #[a, b, s] 46 (0, 0))) (hB' : M B' = some (.cells #[a', b', s'] 46 (0, 0))) (h1 : IntsV M a x.sn) (h3 : IntsV M a' y.sn) :
    V.Fn Try.prog 105 [.pointer (some ⟨B, 0, none⟩), .pointer (some ⟨B', 0, none⟩)] M fun rs _ => rs = [.int .i64 (listsC x.sn y.sn)] := by
  refine Fn.of_vc cxOK Try.func105 rfl rfl rfl ?_
  repeat (first | refine VIf.tt ?_ | refine VIf.ff ?_)
  refine VRead.mk a (cellAt hB 0 rfl) ?_
  repeat (first | refine VIf.tt ?_ | refine VIf.ff ?_)
  refine VRead.mk a' (cellAt hB' 0 rfl) ?_
  repeat (first | refine VIf.tt ?_ | refine VIf.ff ?_)
  refine VFn.mk _ (lists_fn _ _ _ _ _ h1 h3) ?_
  rintro rs M' hM rfl
  repeat (first | refine VIf.tt ?_ | refine VIf.ff ?_)
  exact VFact.mk rfl trivial
theorem case2_fn (x y : CaseS) (B B' : Nat) (a b s a' b' s' : Value) (M : Mem) (hB : M B = some (.cells #[a, b, s] 46 (0, 0))) (hB' : M B' = some (.cells #[a', b', s'] 46 (0, 0))) (h1 : IntsV M b x.cl) (h3 : IntsV M b' y.cl) :
    V.Fn Try.prog 107 [.pointer (some ⟨B, 0, none⟩), .pointer (some ⟨B', 0, none⟩)] M fun rs _ => rs = [.int .i64 (listsC x.cl y.cl)] := by
  refine Fn.of_vc cxOK Try.func107 rfl rfl rfl ?_
  repeat (first | refine VIf.tt ?_ | refine VIf.ff ?_)
  refine VRead.mk b (cellAt hB 1 rfl) ?_
  repeat (first | refine VIf.tt ?_ | refine VIf.ff ?_)
  refine VRead.mk b' (cellAt hB' 1 rfl) ?_
  repeat (first | refine VIf.tt ?_ | refine VIf.ff ?_)
  refine VFn.mk _ (lists_fn _ _ _ _ _ h1 h3) ?_
  rintro rs M' hM rfl
  repeat (first | refine VIf.tt ?_ | refine VIf.ff ?_)
  exact VFact.mk rfl trivial
theorem caseC_fn (x y : CaseS) (a b s a' b' s' : Value) (M : Mem) (h1 : IntsV M a x.sn) (h2 : IntsV M b x.cl) (h3 : IntsV M a' y.sn) (h4 : IntsV M b' y.cl) :
    V.Fn Try.prog 82 [.agg #[a, b, s], .agg #[a', b', s']] M fun rs _ => rs = [.int .i64 (caseC x y)] := by
  refine Fn.of_vc cxOK Try.func82 rfl rfl rfl ?_
  repeat (first | refine VIf.tt ?_ | refine VIf.ff ?_)
  refine VFzB.mk fun u1 B M1 hM1 hB => ?_
  repeat (first | refine VIf.tt ?_ | refine VIf.ff ?_)
  refine VFzB.mk fun u2 B' M2 hM2 hB' => ?_
  have hB : M2 B = some (.cells #[a, b, s] 46 (0, 0)) := hM2 _ _ hB
  have hM2 : M.le M2 := hM1.trans hM2
  repeat (first | refine VIf.tt ?_ | refine VIf.ff ?_)
  refine VCode.loop cxOK (Nat × Mem)
    (fun s => ⟨[(12, .row 2), (13, .v (.int .i64 2)), (14, .v (.int .i64 s.1))], [(2, some (.row 107 1 2 [.func (.func 105) #[] #[.pointer (some ⟨B, 0, none⟩), .pointer (some ⟨B', 0, none⟩)], .func (.func 107) #[] #[.pointer (some ⟨B, 0, none⟩), .pointer (some ⟨B', 0, none⟩)]]))], 3, s.2, 24, ⟨fun _ => none, none, fun _ => none⟩⟩)
    (fun s => M2.le s.2 ∧ s.1 ≤ 2 ∧ (0 < s.1 → listsC x.sn y.sn = 0) ∧ (1 < s.1 → listsC x.cl y.cl = 0)) (fun s => 2 - s.1) (0, M2) ⟨Mem.le_refl _, by simp, by simp, by simp⟩ ?_ ?_
  · exact (Wk.mk' id (by repeat' constructor) (by repeat' constructor) (injOK_id _) rfl rfl rfl)
  rintro ⟨i, M3⟩ ⟨hM3, hi, hz1, hz2⟩ m
  have hM3 : M2.le M3 := hM3
  have hM3' : M.le M3 := hM2.trans hM3
  repeat (first | refine VIf.tt ?_ | refine VIf.ff ?_)
  refine VIf.mk (fun hlt => ?_) (fun hge => ?_)
  · have hlt : i < 2 := by simp only [decide_eq_true_eq] at hlt; omega
    obtain rfl | rfl : i = 0 ∨ i = 1 := by omega
    · repeat (first | refine VIf.tt ?_ | refine VIf.ff ?_)
      refine VIdxR.mk 0 rfl (by omega) ?_
      repeat (first | refine VIf.tt ?_ | refine VIf.ff ?_)
      refine VCells.mk [.func (.func 105) #[] #[.pointer (some ⟨B, 0, none⟩), .pointer (some ⟨B', 0, none⟩)]] rfl (one_get rfl) ?_
      refine ⟨_, rfl, ?_⟩
      repeat (first | refine VIf.tt ?_ | refine VIf.ff ?_)
      refine VFn.mk _ (case1_fn x y B B' a b s a' b' s' M3 (hM3 _ _ hB) (hM3 _ _ hB') (h1.le hM3') (h3.le hM3')) ?_
      rintro rs M4 hM4 rfl
      repeat (first | refine VIf.tt ?_ | refine VIf.ff ?_)
      refine VIf.mk (fun hc => ?_) (fun hc => ?_)
      · repeat (first | refine VIf.tt ?_ | refine VIf.ff ?_)
        refine VFact.mk ?_ trivial
        rw [caseC, if_pos (bne_iff_ne.1 hc)]
      · repeat (first | refine VIf.tt ?_ | refine VIf.ff ?_)
        refine VArith.ok (by first | omega | (simp only; omega)) (by first | omega | (simp only; omega)) ?_
        exact ⟨(1, M4), ⟨hM3.trans hM4, by simp, fun _ => bne_eq_false_iff_eq.1 hc, by simp⟩, (by first | omega | (simp only; omega)), (Wk.mk' id (by repeat' constructor) (by repeat' constructor) (injOK_id _) rfl rfl rfl)⟩
    · repeat (first | refine VIf.tt ?_ | refine VIf.ff ?_)
      refine VIdxR.mk 1 rfl (by omega) ?_
      repeat (first | refine VIf.tt ?_ | refine VIf.ff ?_)
      refine VCells.mk [.func (.func 107) #[] #[.pointer (some ⟨B, 0, none⟩), .pointer (some ⟨B', 0, none⟩)]] rfl (one_get rfl) ?_
      refine ⟨_, rfl, ?_⟩
      repeat (first | refine VIf.tt ?_ | refine VIf.ff ?_)
      refine VFn.mk _ (case2_fn x y B B' a b s a' b' s' M3 (hM3 _ _ hB) (hM3 _ _ hB') (h2.le hM3') (h4.le hM3')) ?_
      rintro rs M4 hM4 rfl
      have hz1 := hz1 (by simp)
      repeat (first | refine VIf.tt ?_ | refine VIf.ff ?_)
      refine VIf.mk (fun hc => ?_) (fun hc => ?_)
      · repeat (first | refine VIf.tt ?_ | refine VIf.ff ?_)
        refine VFact.mk ?_ trivial
        rw [caseC, if_neg (fun h => h hz1)]
      · repeat (first | refine VIf.tt ?_ | refine VIf.ff ?_)
        refine VArith.ok (by first | omega | (simp only; omega)) (by first | omega | (simp only; omega)) ?_
        exact ⟨(2, M4), ⟨hM3.trans hM4, by simp, fun _ => hz1, fun _ => bne_eq_false_iff_eq.1 hc⟩, (by first | omega | (simp only; omega)), (Wk.mk' id (by repeat' constructor) (by repeat' constructor) (injOK_id _) rfl rfl rfl)⟩
  · have : i = 2 := by
      have hi : i ≤ 2 := hi
      simp only [decide_eq_false_iff_not] at hge
      omega
    subst this
    repeat (first | refine VIf.tt ?_ | refine VIf.ff ?_)
    refine VFact.mk ?_ trivial
    rw [caseC, if_neg (fun h => h (hz1 (by simp))), hz2 (by simp)]
end Go.Proofs.Ytaobaeiohjgdcaa
