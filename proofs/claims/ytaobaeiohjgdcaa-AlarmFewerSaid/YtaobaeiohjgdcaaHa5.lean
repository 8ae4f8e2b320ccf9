import Derived.Test.YtaobaeiohjgdcaaHa4
import Derived.Test.YtaobaeiohjgdcaaRows
import Derived.ProofKit
import Derived.OpenShut
import Derived.WalkKit
import Derived.Handy
import Derived.Lib.Hide
import Derived.WalkLawsBesides
import Derived.WalkSpells
set_option linter.unusedVariables false
set_option linter.unusedSimpArgs false
/- Contracts: comparisons of cases. -/
namespace Go.Proofs.Ytaobaeiohjgdcaa
open Go Go.V Go.RowKit
def small (l : List Int) : Prop := ∀ i, i < l.length → -1000000 ≤ gi l i ∧ gi l i ≤ 1000000
theorem small_of {lo hi : Int} {l : List Int} (h : risingB lo hi l = true) (h1 : -1000000 ≤ lo) (h2 : hi ≤ 1000000) : small l := fun i hi' => by
  have := all_iff.1 h i hi'
  simp only [rise1, Bool.and_eq_true, decide_eq_true_eq] at this
  omega
theorem diffB_drop : ∀ (a b : List Int) (i : Nat), i ≤ a.length → i ≤ b.length → (∀ j, j < i → gi a j = gi b j) → diffB (a.drop i) (b.drop i) = diffB a b
  | _, _, 0, _, _, _ => by simp
  | [], _, i + 1, h, _, _ => by simp at h
  | _ :: _, [], i + 1, _, h, _ => by simp at h
  | x :: a, y :: b, i + 1, h1, h2, h => by
    have h0 := h 0 (by omega)
    simp only [gi, List.getD_cons_zero] at h0
    subst h0
    rw [List.drop_succ_cons, List.drop_succ_cons, diffB_drop a b i (by simpa using h1) (by simpa using h2) (fun j hj => by have := h (j + 1) (by omega); simpa [gi] using this)]
    simp [diffB]
theorem listsR_fn (v w : Value) (a b : List Int) (M : Mem) (hv : IntsV M v a) (hw : IntsV M w b) (ha : small a) (hb : small b) : FnP Try.prog 88 [v, w] M [.int .i64 (listsR a b)] := by
  obtain ⟨ad, c, rfl, hm, hrd⟩ := hv.get
  obtain ⟨bd, d, rfl, hm', hrd'⟩ := hw.get
  refine Fn.of_vc cxOK Try.func88 rfl rfl rfl ?_
  repeat (first | refine VIf.tt ?_ | refine VIf.ff ?_)
  refine VIf.mk (fun h0 => ?_) (fun h0 => ?_)
  · repeat (first | refine VIf.tt ?_ | refine VIf.ff ?_)
    refine VArith.ok (by first | omega | (simp only; omega)) (by first | omega | (simp only; omega)) ?_
    repeat (first | refine VIf.tt ?_ | refine VIf.ff ?_)
    refine VFact.mk ⟨?_, rfl⟩ trivial
    rw [listsR, if_pos (ne_of_bne h0)]
  have h0 : a.length = b.length := eq_of_bne h0
  rw [show listsR a b = diffB a b from if_neg (fun h => h h0)]
  repeat (first | refine VIf.tt ?_ | refine VIf.ff ?_)
  refine VCode.loop cxOK Nat (fun i => ⟨[(0, .v (.slice ad a.length c)), (1, .v (.slice bd b.length d)), (5, .v (.int .i64 i))], [], 0, M, 40, ⟨fun _ => none, none, fun _ => none⟩⟩)
    (fun i => i ≤ a.length ∧ i ≤ b.length ∧ ∀ j, j < i → gi a j = gi b j) (fun i => a.length - i) 0 ⟨Nat.zero_le _, Nat.zero_le _, fun j hj => by omega⟩ (Wk.mk' id (by repeat' constructor) (by repeat' constructor) (injOK_id _) rfl rfl rfl) ?_
  rintro i ⟨hi, hi', hz⟩ m
  have hl := diffB_drop a b i hi hi' hz
  repeat (first | refine VIf.tt ?_ | refine VIf.ff ?_)
  refine VIf.mk (fun hlt => ?_) (fun hge => ?_)
  · have hlt := lt_of_dec hlt
    have hlb : i < b.length := by omega
    obtain ⟨ad', rfl, _, hc1⟩ := hrd M (Mem.le_refl _) i hlt
    obtain ⟨bd', rfl, _, hc2⟩ := hrd' M (Mem.le_refl _) i hlb
    rw [drop_gi hlt, drop_gi hlb] at hl
    have s1 := ha i hlt
    have s2 := hb i hlb
    repeat (first | refine VIf.tt ?_ | refine VIf.ff ?_)
    refine VDraw.go (by kernel_rfl) ?_
    repeat (first | refine VIf.tt ?_ | refine VIf.ff ?_)
    refine VIdx.mk ad' i rfl rfl hlt ?_
    repeat (first | refine VIf.tt ?_ | refine VIf.ff ?_)
    refine VRead.mk _ hc1 ?_
    repeat (first | refine VIf.tt ?_ | refine VIf.ff ?_)
    refine VIdx.mk bd' i rfl rfl hlb ?_
    repeat (first | refine VIf.tt ?_ | refine VIf.ff ?_)
    refine VRead.mk _ hc2 ?_
    repeat (first | refine VIf.tt ?_ | refine VIf.ff ?_)
    refine VIf.mk (fun h1 => ?_) (fun h1 => ?_)
    · repeat (first | refine VIf.tt ?_ | refine VIf.ff ?_)
      refine VDraw.go (by kernel_rfl) ?_
      repeat (first | refine VIf.tt ?_ | refine VIf.ff ?_)
      refine VIdx.mk ad' i rfl rfl hlt ?_
      repeat (first | refine VIf.tt ?_ | refine VIf.ff ?_)
      refine VRead.mk _ hc1 ?_
      repeat (first | refine VIf.tt ?_ | refine VIf.ff ?_)
      refine VIdx.mk bd' i rfl rfl hlb ?_
      repeat (first | refine VIf.tt ?_ | refine VIf.ff ?_)
      refine VRead.mk _ hc2 ?_
      repeat (first | refine VIf.tt ?_ | refine VIf.ff ?_)
      refine VArith.ok (by first | omega | (simp only; omega)) (by first | omega | (simp only; omega)) ?_
      repeat (first | refine VIf.tt ?_ | refine VIf.ff ?_)
      refine VFact.mk ⟨?_, rfl⟩ trivial
      rw [← hl, diffB, if_pos (bne_iff_ne.1 h1)]
    · repeat (first | refine VIf.tt ?_ | refine VIf.ff ?_)
      refine VArith.ok (by first | omega | (simp only; omega)) (by first | omega | (simp only; omega)) ?_
      refine ⟨i + 1, ⟨hlt, hlb, fun j hj => ?_⟩, (by first | omega | (simp only; omega)), (Wk.mk' id (by repeat' constructor) (by repeat' constructor) (injOK_id _) rfl rfl rfl)⟩
      by_cases e : j = i
      · subst e; exact bne_eq_false_iff_eq.1 h1
      · exact hz j (by omega)
  · have : i = a.length := by have := ge_of_dec hge; omega
    subst this
    repeat (first | refine VIf.tt ?_ | refine VIf.ff ?_)
    refine VFact.mk ⟨?_, rfl⟩ trivial
    rw [List.drop_length] at hl
    rw [← hl]; simp [diffB]
theorem caseR_fn (x y : CaseS) (a b s a' b' s' : Value) (M : Mem) (h1 : IntsV M a x.sn) (h2 : IntsV M b x.cl) (h3 : IntsV M a' y.sn) (h4 : IntsV M b' y.cl) (g1 : small x.sn) (g2 : small x.cl) (g3 : small y.sn) (g4 : small y.cl)
    (_o1 : s.oneCell' = true) (_o2 : s'.oneCell' = true) : FnP Try.prog 53 [.agg #[a, b, s], .agg #[a', b', s']] M [.int .i64 (caseR x y)] := by
  refine Fn.of_vc cxOK Try.func53 rfl rfl rfl ?_
  repeat (first | refine VIf.tt ?_ | refine VIf.ff ?_)
  refine VFn.p (listsR_fn _ _ _ _ _ h1 h3 g1 g3) ?_
  repeat (first | refine VIf.tt ?_ | refine VIf.ff ?_)
  refine VIf.mk (fun h0 => ?_) (fun h0 => ?_)
  · repeat (first | refine VIf.tt ?_ | refine VIf.ff ?_)
    refine VFact.mk ⟨?_, rfl⟩ trivial
    rw [caseR, if_pos (bne_iff_ne.1 h0)]
  · repeat (first | refine VIf.tt ?_ | refine VIf.ff ?_)
    refine VFn.p (listsR_fn _ _ _ _ _ h2 h4 g2 g4) ?_
    repeat (first | refine VIf.tt ?_ | refine VIf.ff ?_)
    refine VFact.mk ⟨?_, rfl⟩ trivial
    rw [caseR, if_neg (fun h => h (bne_eq_false_iff_eq.1 h0))]
theorem one_get {xs : List Value} {off : Nat} {x : Value} (h : xs[off + 0]? = some x) : ∀ (j : Nat) (v : Value), [x][j]? = some v → xs[off + j]? = some v
  | 0, v, hj => by rw [← hj]; exact h
  | j + 1, v, hj => by simp at hj
theorem cellAt {M : Mem} {B : Nat} {cs : Array Value} {t : TypeId} (h : M B = some (.cells cs t (0, 0))) (j : Nat) {v : Value} (hv : cs[j]? = some v) : M.cell ((⟨B, 0, none⟩ : Addr).add j) = some v := by
  unfold Mem.cell Addr.add
  by_cases e : j = 0
  · subst e; simp only [if_true, h]; exact hv
  · simp only [e, if_false, h, Nat.zero_add]; exact hv
theorem case1_fn (x y : CaseS) (B B' : Nat) (a b s a' b' s' : Value) (M : Mem) (hB : M B = some (.cells #[a, b, s] 46 (0, 0))) (hB' : M B' = some (.cells #[a', b', s'] 46 (0, 0))) (h1 : IntsV M a x.sn) (h3 : IntsV M a' y.sn) :
    V.Fn Try.prog 105 [.pointer (some ⟨B, 0, none⟩), .pointer (some ⟨B', 0, none⟩)] M fun rs _ => rs = [.int .i64 (listsC x.sn y.sn)] := by
  refine Fn.of_vc cxOK Try.func105 rfl rfl rfl ?_
  repeat (first | refine VIf.tt ?_ | refine VIf.ff ?_)
  refine VRead.mk a (cellAt hB 0 rfl) ?_
  repeat (first | refine VIf.tt ?_ | refine VIf.ff ?_)
  refine VRead.mk a' (cellAt hB' 0 rfl) ?_
  repeat (first | refine VIf.tt ?_ | refine VIf.ff ?_)
  refine VFn.mk _ (lists_fn _ _ _ _ _ h1 h3) ?_
  rintro rs M' hM rfl
  repeat (first | refine VIf.tt ?_ | refine VIf.ff ?_)
  exact VFact.mk rfl trivial
theorem case2_fn (x y : CaseS) (B B' : Nat) (a b s a' b' s' : Value) (M : Mem) (hB : M B = some (.cells #[a, b, s] 46 (0, 0))) (hB' : M B' = some (.cells #[a', b', s'] 46 (0, 0))) (h1 : IntsV M b x.cl) (h3 : IntsV M b' y.cl) :
    V.Fn Try.prog 107 [.pointer (some ⟨B, 0, none⟩), .pointer (some ⟨B', 0, none⟩)] M fun rs _ => rs = [.int .i64 (listsC x.cl y.cl)] := by
  refine Fn.of_vc cxOK Try.func107 rfl rfl rfl ?_
  repeat (first | refine VIf.tt ?_ | refine VIf.ff ?_)
  refine VRead.mk b (cellAt hB 1 rfl) ?_
  repeat (first | refine VIf.tt ?_ | refine VIf.ff ?_)
  refine VRead.mk b' (cellAt hB' 1 rfl) ?_
  repeat (first | refine VIf.tt ?_ | refine VIf.ff ?_)
  refine VFn.mk _ (lists_fn _ _ _ _ _ h1 h3) ?_
  rintro rs M' hM rfl
  repeat (first | refine VIf.tt ?_ | refine VIf.ff ?_)
  exact VFact.mk rfl trivial
theorem caseC_fn (x y : CaseS) (a b s a' b' s' : Value) (M : Mem) (h1 : IntsV M a x.sn) (h2 : IntsV M b x.cl) (h3 : IntsV M a' y.sn) (h4 : IntsV M b' y.cl) :
    V.Fn Try.prog 82 [.agg #[a, b, s], .agg #[a', b', s']] M fun rs _ => rs = [.int .i64 (caseC x y)] := by
  refine Fn.of_vc cxOK Try.func82 rfl rfl rfl ?_
  repeat (first | refine VIf.tt ?_ | refine VIf.ff ?_)
  refine VFzB.mk fun u1 B M1 hM1 hB => ?_
  repeat (first | refine VIf.tt ?_ | refine VIf.ff ?_)
  refine VFzB.mk fun u2 B' M2 hM2 hB' => ?_
  have hB : M2 B = some (.cells #[a, b, s] 46 (0, 0)) := hM2 _ _ hB
  have hM2 : M.le M2 := hM1.trans hM2
  repeat (first | refine VIf.tt ?_ | refine VIf.ff ?_)
  refine VCode.loop cxOK (Nat × Mem)
    (fun s => ⟨[(12, .row 2), (13, .v (.int .i64 2)), (14, .v (.int .i64 s.1))], [(2, some (.row 107 1 2 [.func (.func 105) #[] #[.pointer (some ⟨B, 0, none⟩), .pointer (some ⟨B', 0, none⟩)], .func (.func 107) #[] #[.pointer (some ⟨B, 0, none⟩), .pointer (some ⟨B', 0, none⟩)]]))], 3, s.2, 24, ⟨fun _ => none, none, fun _ => none⟩⟩)
    (fun s => M2.le s.2 ∧ s.1 ≤ 2 ∧ (0 < s.1 → listsC x.sn y.sn = 0) ∧ (1 < s.1 → listsC x.cl y.cl = 0)) (fun s => 2 - s.1) (0, M2) ⟨Mem.le_refl _, by simp, by simp, by simp⟩ ?_ ?_
  · exact (Wk.mk' id (by repeat' constructor) (by repeat' constructor) (injOK_id _) rfl rfl rfl)
  rintro ⟨i, M3⟩ ⟨hM3, hi, hz1, hz2⟩ m
  have hM3 : M2.le M3 := hM3
  have hM3' : M.le M3 := hM2.trans hM3
  repeat (first | refine VIf.tt ?_ | refine VIf.ff ?_)
  refine VIf.mk (fun hlt => ?_) (fun hge => ?_)
  · have hlt : i < 2 := by simp only [decide_eq_true_eq] at hlt; omega
    obtain rfl | rfl : i = 0 ∨ i = 1 := by omega
    · repeat (first | refine VIf.tt ?_ | refine VIf.ff ?_)
      refine VIdxR.mk 0 rfl (by omega) ?_
      repeat (first | refine VIf.tt ?_ | refine VIf.ff ?_)
      refine VCells.mk [.func (.func 105) #[] #[.pointer (some ⟨B, 0, none⟩), .pointer (some ⟨B', 0, none⟩)]] rfl (one_get rfl) ?_
      refine ⟨_, rfl, ?_⟩
      repeat (first | refine VIf.tt ?_ | refine VIf.ff ?_)
      refine VFn.mk _ (case1_fn x y B B' a b s a' b' s' M3 (hM3 _ _ hB) (hM3 _ _ hB') (h1.le hM3') (h3.le hM3')) ?_
      rintro rs M4 hM4 rfl
      repeat (first | refine VIf.tt ?_ | refine VIf.ff ?_)
      refine VIf.mk (fun hc => ?_) (fun hc => ?_)
      · repeat (first | refine VIf.tt ?_ | refine VIf.ff ?_)
        refine VFact.mk ?_ trivial
        rw [caseC, if_pos (bne_iff_ne.1 hc)]
      · repeat (first | refine VIf.tt ?_ | refine VIf.ff ?_)
        refine VArith.ok (by first | omega | (simp only; omega)) (by first | omega | (simp only; omega)) ?_
        exact ⟨(1, M4), ⟨hM3.trans hM4, by simp, fun _ => bne_eq_false_iff_eq.1 hc, by simp⟩, (by first | omega | (simp only; omega)), (Wk.mk' id (by repeat' constructor) (by repeat' constructor) (injOK_id _) rfl rfl rfl)⟩
    · repeat (first | refine VIf.tt ?_ | refine VIf.ff ?_)
      refine VIdxR.mk 1 rfl (by omega) ?_
      repeat (first | refine VIf.tt ?_ | refine VIf.ff ?_)
      refine VCells.mk [.func (.func 107) #[] #[.pointer (some ⟨B, 0, none⟩), .pointer (some ⟨B', 0, none⟩)]] rfl (one_get rfl) ?_
      refine ⟨_, rfl, ?_⟩
      repeat (first | refine VIf.tt ?_ | refine VIf.ff ?_)
      refine VFn.mk _ (case2_fn x y B B' a b s a' b' s' M3 (hM3 _ _ hB) (hM3 _ _ hB') (h2.le hM3') (h4.le hM3')) ?_
      rintro rs M4 hM4 rfl
      have hz1 := hz1 (by simp)
      repeat (first | refine VIf.tt ?_ | refine VIf.ff ?_)
      refine VIf.mk (fun hc => ?_) (fun hc => ?_)
      · repeat (first | refine VIf.tt ?_ | refine VIf.ff ?_)
        refine VFact.mk ?_ trivial
        rw [caseC, if_neg (fun h => h hz1)]
      · repeat (first | refine VIf.tt ?_ | refine VIf.ff ?_)
        refine VArith.ok (by first | omega | (simp only; omega)) (by first | omega | (simp only; omega)) ?_
        exact ⟨(2, M4), ⟨hM3.trans hM4, by simp, fun _ => hz1, fun _ => bne_eq_false_iff_eq.1 hc⟩, (by first | omega | (simp only; omega)), (Wk.mk' id (by repeat' constructor) (by repeat' constructor) (injOK_id _) rfl rfl rfl)⟩
  · have : i = 2 := by
      have hi : i ≤ 2 := hi
      simp only [decide_eq_false_iff_not] at hge
      omega
    subst this
    repeat (first | refine VIf.tt ?_ | refine VIf.ff ?_)
    refine VFact.mk ?_ trivial
    rw [caseC, if_neg (fun h => h (hz1 (by simp))), hz2 (by simp)]
end Go.Proofs.Ytaobaeiohjgdcaa

/- Contracts: regions. -/
namespace Go.Proofs.Ytaobaeiohjgdcaa
open Go Go.V Go.RowKit
def gr (r : List (List Pt)) (i : Nat) : List Pt := r.getD i []
theorem any_getD {α : Type} (d : α) (g : α → Bool) (l : List α) {i : Nat} (hi : i < l.length) (h : g (l.getD i d) = true) : l.any g = true := by
  rw [List.any_eq_true]
  exact ⟨_, List.getElem_mem hi, by simpa [hi] using h⟩
theorem any_none {α : Type} (d : α) (g : α → Bool) (l : List α) (h : ∀ i, i < l.length → g (l.getD i d) = false) : l.any g = false := by
  rw [List.any_eq_false]
  intro x hx
  obtain ⟨i, hi, rfl⟩ := List.getElem_of_mem hx
  have := h i hi
  simp [hi] at this
  simp [this]
theorem all_getD {α : Type} (d : α) (g : α → Bool) (l : List α) (h : ∀ i, i < l.length → g (l.getD i d) = true) : l.all g = true := by
  rw [List.all_eq_true]
  intro x hx
  obtain ⟨i, hi, rfl⟩ := List.getElem_of_mem hx
  have := h i hi
  simpa [hi] using this
theorem all_getD' {α : Type} (d : α) (g : α → Bool) (l : List α) {i : Nat} (hi : i < l.length) (h : g (l.getD i d) = false) : l.all g = false := by
  cases hb : l.all g with
  | false => rfl
  | true =>
    have := List.all_eq_true.1 hb _ (List.getElem_mem hi)
    simp [hi] at h
    rw [h] at this; cases this
theorem all_at {α : Type} (d : α) {g : α → Bool} {l : List α} (h : l.all g = true) {i : Nat} (hi : i < l.length) : g (l.getD i d) = true := by
  have := List.all_eq_true.1 h _ (List.getElem_mem hi)
  simpa [hi] using this
theorem IndexR0_fn (v : Value) (r : List (List Pt)) (fid : Nat) (g : List Pt → Bool) (M : Mem) (hv : RegV M v r) (hg : ∀ i, i < r.length → ∀ M', M.le M' → ∀ w, Pts M' w (gr r i) → i64P (gr r i) → V.Fn Try.prog fid [w] M' fun rs _ => rs = [.bool (g (gr r i))]) :
    V.Fn Try.prog 93 [v, .func (.func fid) #[] #[]] M fun rs _ => ∃ k : Int, rs = [.int .i64 k] ∧ (0 ≤ k ↔ r.any g = true) := by
  obtain ⟨ad, c, rfl, hm, hrd⟩ := hv.get
  refine Fn.of_vc cxOK Try.func93 rfl rfl rfl ?_
  repeat (first | refine VIf.tt ?_ | refine VIf.ff ?_)
  refine VCode.loop cxOK (Nat × Mem) (fun s => ⟨[(0, .v (.slice ad r.length c)), (1, .v (.func (.func fid) #[] #[])), (7, .v (.int .i64 r.length)), (8, .v (.int .i64 s.1))], [], 0, s.2, 19, ⟨fun _ => none, none, fun _ => none⟩⟩)
    (fun s => M.le s.2 ∧ s.1 ≤ r.length ∧ ∀ j, j < s.1 → g (gr r j) = false) (fun s => r.length - s.1) (0, M) ⟨Mem.le_refl _, Nat.zero_le _, fun j hj => by simp at hj⟩ (Wk.mk' id (by repeat' constructor) (by repeat' constructor) (injOK_id _) rfl rfl rfl) ?_
  rintro ⟨i, M1⟩ ⟨hM1, hi, hz⟩ m
  have hM1 : M.le M1 := hM1
  repeat (first | refine VIf.tt ?_ | refine VIf.ff ?_)
  refine VIf.mk (fun hlt => ?_) (fun hge => ?_)
  · have hlt : i < r.length := lt_of_dec hlt
    obtain ⟨ad', w, rfl, hp, hp64, hc1⟩ := hrd M1 hM1 i hlt
    repeat (first | refine VIf.tt ?_ | refine VIf.ff ?_)
    refine VIdx.mk ad' i rfl rfl hlt ?_
    repeat (first | refine VIf.tt ?_ | refine VIf.ff ?_)
    refine VRead.mk _ hc1 ?_
    repeat (first | refine VIf.tt ?_ | refine VIf.ff ?_)
    refine VFn.mk _ (hg i hlt M1 hM1 w hp hp64) ?_
    rintro rs M2 hM2 rfl
    repeat (first | refine VIf.tt ?_ | refine VIf.ff ?_)
    refine VIf.mk (fun hc => ?_) (fun hc => ?_)
    · repeat (first | refine VIf.tt ?_ | refine VIf.ff ?_)
      refine VFact.mk ⟨i, rfl, ?_⟩ trivial
      have := any_getD [] g r hlt hc
      simp [this]
    · repeat (first | refine VIf.tt ?_ | refine VIf.ff ?_)
      refine VArith.ok (by first | omega | (simp only; omega)) (by first | omega | (simp only; omega)) ?_
      refine ⟨(i + 1, M2), ⟨hM1.trans hM2, hlt, fun j hj => ?_⟩, (by first | omega | (simp only; omega)), (Wk.mk' id (by repeat' constructor) (by repeat' constructor) (injOK_id _) rfl rfl rfl)⟩
      by_cases e : j = i
      · subst e; exact hc
      · exact hz j (by simp only at hj ⊢; omega)
  · have : i = r.length := by have := ge_of_dec hge; have hi : i ≤ r.length := hi; omega
    subst this
    repeat (first | refine VIf.tt ?_ | refine VIf.ff ?_)
    refine VFact.mk ⟨-1, rfl, ?_⟩ trivial
    have := any_none [] g r hz
    simp [this]
theorem ContainsR0_fn (v : Value) (r : List (List Pt)) (fid : Nat) (g : List Pt → Bool) (M : Mem) (hv : RegV M v r) (hg : ∀ i, i < r.length → ∀ M', M.le M' → ∀ w, Pts M' w (gr r i) → i64P (gr r i) → V.Fn Try.prog fid [w] M' fun rs _ => rs = [.bool (g (gr r i))]) :
    V.Fn Try.prog 61 [v, .func (.func fid) #[] #[]] M fun rs _ => rs = [.bool (r.any g)] := by
  obtain ⟨ad, c, rfl, hm, hrd⟩ := hv.get
  refine Fn.of_vc cxOK Try.func61 rfl rfl rfl ?_
  repeat (first | refine VIf.tt ?_ | refine VIf.ff ?_)
  refine VFn.mk _ (IndexR0_fn _ r fid g M hv hg) ?_
  rintro rs M1 hM1 ⟨k, rfl, hk⟩
  repeat (first | refine VIf.tt ?_ | refine VIf.ff ?_)
  refine VFact.mk (bool1 ?_) trivial
  rw [← hk]; simp
theorem IndexR1_fn (v : Value) (r : List (List Pt)) (fid : Nat) (c0 : Value) (g : List Pt → Bool) (M : Mem) (hv : RegV M v r) (hg : ∀ i, i < r.length → ∀ M', M.le M' → ∀ w, Pts M' w (gr r i) → i64P (gr r i) → V.Fn Try.prog fid [w, c0] M' fun rs _ => rs = [.bool (g (gr r i))]) :
    V.Fn Try.prog 93 [v, .func (.func fid) #[] #[c0]] M fun rs _ => ∃ k : Int, rs = [.int .i64 k] ∧ (0 ≤ k ↔ r.any g = true) := by
  obtain ⟨ad, c, rfl, hm, hrd⟩ := hv.get
  refine Fn.of_vc cxOK Try.func93 rfl rfl rfl ?_
  repeat (first | refine VIf.tt ?_ | refine VIf.ff ?_)
  refine VCode.loop cxOK (Nat × Mem) (fun s => ⟨[(0, .v (.slice ad r.length c)), (1, .v (.func (.func fid) #[] #[c0])), (7, .v (.int .i64 r.length)), (8, .v (.int .i64 s.1))], [], 0, s.2, 19, ⟨fun _ => none, none, fun _ => none⟩⟩)
    (fun s => M.le s.2 ∧ s.1 ≤ r.length ∧ ∀ j, j < s.1 → g (gr r j) = false) (fun s => r.length - s.1) (0, M) ⟨Mem.le_refl _, Nat.zero_le _, fun j hj => by simp at hj⟩ (Wk.mk' id (by repeat' constructor) (by repeat' constructor) (injOK_id _) rfl rfl rfl) ?_
  rintro ⟨i, M1⟩ ⟨hM1, hi, hz⟩ m
  have hM1 : M.le M1 := hM1
  repeat (first | refine VIf.tt ?_ | refine VIf.ff ?_)
  refine VIf.mk (fun hlt => ?_) (fun hge => ?_)
  · have hlt : i < r.length := lt_of_dec hlt
    obtain ⟨ad', w, rfl, hp, hp64, hc1⟩ := hrd M1 hM1 i hlt
    repeat (first | refine VIf.tt ?_ | refine VIf.ff ?_)
    refine VIdx.mk ad' i rfl rfl hlt ?_
    repeat (first | refine VIf.tt ?_ | refine VIf.ff ?_)
    refine VRead.mk _ hc1 ?_
    repeat (first | refine VIf.tt ?_ | refine VIf.ff ?_)
    refine VFn.mk _ (hg i hlt M1 hM1 w hp hp64) ?_
    rintro rs M2 hM2 rfl
    repeat (first | refine VIf.tt ?_ | refine VIf.ff ?_)
    refine VIf.mk (fun hc => ?_) (fun hc => ?_)
    · repeat (first | refine VIf.tt ?_ | refine VIf.ff ?_)
      refine VFact.mk ⟨i, rfl, ?_⟩ trivial
      have := any_getD [] g r hlt hc
      simp [this]
    · repeat (first | refine VIf.tt ?_ | refine VIf.ff ?_)
      refine VArith.ok (by first | omega | (simp only; omega)) (by first | omega | (simp only; omega)) ?_
      refine ⟨(i + 1, M2), ⟨hM1.trans hM2, hlt, fun j hj => ?_⟩, (by first | omega | (simp only; omega)), (Wk.mk' id (by repeat' constructor) (by repeat' constructor) (injOK_id _) rfl rfl rfl)⟩
      by_cases e : j = i
      · subst e; exact hc
      · exact hz j (by simp only at hj ⊢; omega)
  · have : i = r.length := by have := ge_of_dec hge; have hi : i ≤ r.length := hi; omega
    subst this
    repeat (first | refine VIf.tt ?_ | refine VIf.ff ?_)
    refine VFact.mk ⟨-1, rfl, ?_⟩ trivial
    have := any_none [] g r hz
    simp [this]
theorem ContainsR1_fn (v : Value) (r : List (List Pt)) (fid : Nat) (c0 : Value) (g : List Pt → Bool) (M : Mem) (hv : RegV M v r) (hg : ∀ i, i < r.length → ∀ M', M.le M' → ∀ w, Pts M' w (gr r i) → i64P (gr r i) → V.Fn Try.prog fid [w, c0] M' fun rs _ => rs = [.bool (g (gr r i))]) :
    V.Fn Try.prog 61 [v, .func (.func fid) #[] #[c0]] M fun rs _ => rs = [.bool (r.any g)] := by
  obtain ⟨ad, c, rfl, hm, hrd⟩ := hv.get
  refine Fn.of_vc cxOK Try.func61 rfl rfl rfl ?_
  repeat (first | refine VIf.tt ?_ | refine VIf.ff ?_)
  refine VFn.mk _ (IndexR1_fn _ r fid c0 g M hv hg) ?_
  rintro rs M1 hM1 ⟨k, rfl, hk⟩
  repeat (first | refine VIf.tt ?_ | refine VIf.ff ?_)
  refine VFact.mk (bool1 ?_) trivial
  rw [← hk]; simp
theorem invalid1_fn (w : Value) (ps : List Pt) (M : Mem) (hv : Pts M w ps) (hi : i64P ps) : V.Fn Try.prog 112 [w] M fun rs _ => rs = [.bool (!validB ps)] := by
  refine Fn.of_vc cxOK Try.func112 rfl rfl rfl ?_
  repeat (first | refine VIf.tt ?_ | refine VIf.ff ?_)
  refine VFn.mk _ (Valid_fn w ps M hv hi) ?_
  rintro rs M1 hM1 rfl
  repeat (first | refine VIf.tt ?_ | refine VIf.ff ?_)
  exact VFact.mk rfl trivial
theorem invalid_fn (v : Value) (r : List (List Pt)) (M : Mem) (hv : RegV M v r) : V.Fn Try.prog 92 [v] M fun rs _ => rs = [.bool (r.any fun p => !validB p)] := by
  obtain ⟨ad, c, rfl⟩ := hv.shape
  refine Fn.of_vc cxOK Try.func92 rfl rfl rfl ?_
  repeat (first | refine VIf.tt ?_ | refine VIf.ff ?_)
  refine VFn.mk _ (ContainsR0_fn _ r _ (fun p => !validB p) M hv fun i _ M' _ w hw h64 => invalid1_fn w _ M' hw h64) ?_
  rintro rs M1 hM1 rfl
  repeat (first | refine VIf.tt ?_ | refine VIf.ff ?_)
  exact VFact.mk rfl trivial
theorem not_any {α : Type} (g : α → Bool) : ∀ l : List α, (!l.any fun x => !g x) = l.all g
  | [] => rfl
  | x :: l => by
    have := not_any g l
    simp only [List.any_cons, List.all_cons, Bool.not_or, Bool.not_not, this]
theorem regValid_fn (v : Value) (r : List (List Pt)) (M : Mem) (hv : RegV M v r) : V.Fn Try.prog 58 [v] M fun rs _ => rs = [.bool (regionB r)] := by
  obtain ⟨ad, c, rfl⟩ := hv.shape
  refine Fn.of_vc cxOK Try.func58 rfl rfl rfl ?_
  repeat (first | refine VIf.tt ?_ | refine VIf.ff ?_)
  refine VIf.mk (fun h1 => ?_) (fun h1 => ?_)
  · repeat (first | refine VIf.tt ?_ | refine VIf.ff ?_)
    refine VFn.mk _ (invalid_fn _ r M hv) ?_
    rintro rs M1 hM1 rfl
    repeat (first | refine VIf.tt ?_ | refine VIf.ff ?_)
    refine VFact.mk ?_ trivial
    have h1 : r.length ≤ 32 := by have := of_decide_eq_true h1; omega
    rw [not_any]
    simp [regionB, h1]
  · repeat (first | refine VIf.tt ?_ | refine VIf.ff ?_)
    refine VFact.mk ?_ trivial
    have h1 : ¬ r.length ≤ 32 := by have := of_decide_eq_false h1; omega
    simp [regionB, h1]
theorem polygonsR_fn (v : Value) (r : List (List Pt)) (M : Mem) (hv : RegV M v r) : FnP Try.prog 87 [v] M [.bool (r.all validB)] := by
  obtain ⟨ad, c, rfl, hm, hrd⟩ := hv.get
  refine Fn.of_vc cxOK Try.func87 rfl rfl rfl ?_
  repeat (first | refine VIf.tt ?_ | refine VIf.ff ?_)
  refine VCode.loop cxOK Nat (fun i => ⟨[(0, .v (.slice ad r.length c)), (3, .v (.int .i64 i))], [], 0, M, 18, ⟨fun _ => none, none, fun _ => none⟩⟩)
    (fun i => i ≤ r.length ∧ ∀ j, j < i → validB (gr r j) = true) (fun i => r.length - i) 0 ⟨Nat.zero_le _, fun j hj => by omega⟩ (Wk.mk' id (by repeat' constructor) (by repeat' constructor) (injOK_id _) rfl rfl rfl) ?_
  rintro i ⟨hi, hz⟩ m
  repeat (first | refine VIf.tt ?_ | refine VIf.ff ?_)
  refine VIf.mk (fun hlt => ?_) (fun hge => ?_)
  · have hlt : i < r.length := lt_of_dec hlt
    obtain ⟨ad', w, rfl, hp, hp64, hc1⟩ := hrd M (Mem.le_refl _) i hlt
    repeat (first | refine VIf.tt ?_ | refine VIf.ff ?_)
    refine VIdx.mk ad' i rfl rfl hlt ?_
    repeat (first | refine VIf.tt ?_ | refine VIf.ff ?_)
    refine VRead.mk _ hc1 ?_
    repeat (first | refine VIf.tt ?_ | refine VIf.ff ?_)
    refine VFn.p (ValidR_fn w _ M hp hp64) ?_
    rw [validR_eq]
    repeat (first | refine VIf.tt ?_ | refine VIf.ff ?_)
    refine VIf.mk (fun hc => ?_) (fun hc => ?_)
    · repeat (first | refine VIf.tt ?_ | refine VIf.ff ?_)
      refine VFact.mk ⟨?_, rfl⟩ trivial
      rw [all_getD' [] validB r hlt (bn1 hc)]
    · repeat (first | refine VIf.tt ?_ | refine VIf.ff ?_)
      refine VArith.ok (by first | omega | (simp only; omega)) (by first | omega | (simp only; omega)) ?_
      exact ⟨i + 1, ⟨hlt, stepI hz (bn2 hc)⟩, (by first | omega | (simp only; omega)), (Wk.mk' id (by repeat' constructor) (by repeat' constructor) (injOK_id _) rfl rfl rfl)⟩
  · have : i = r.length := by have := ge_of_dec hge; omega
    subst this
    repeat (first | refine VIf.tt ?_ | refine VIf.ff ?_)
    refine VFact.mk ⟨?_, rfl⟩ trivial
    rw [all_getD [] validB r hz]
theorem regValidR_fn (v : Value) (r : List (List Pt)) (M : Mem) (hv : RegV M v r) : FnP Try.prog 51 [v] M [.bool (regionB r)] := by
  obtain ⟨ad, c, rfl⟩ := hv.shape
  refine Fn.of_vc cxOK Try.func51 rfl rfl rfl ?_
  repeat (first | refine VIf.tt ?_ | refine VIf.ff ?_)
  refine VIf.mk (fun h1 => ?_) (fun h1 => ?_)
  · repeat (first | refine VIf.tt ?_ | refine VIf.ff ?_)
    refine VFn.p (polygonsR_fn _ r M hv) ?_
    repeat (first | refine VIf.tt ?_ | refine VIf.ff ?_)
    refine VFact.mk ⟨?_, rfl⟩ trivial
    have h1 : r.length ≤ 32 := by have := of_decide_eq_true h1; omega
    simp [regionB, h1]
  · repeat (first | refine VIf.tt ?_ | refine VIf.ff ?_)
    refine VFact.mk ⟨?_, rfl⟩ trivial
    have h1 : ¬ r.length ≤ 32 := by have := of_decide_eq_false h1; omega
    simp [regionB, h1]
end Go.Proofs.Ytaobaeiohjgdcaa

/- Contracts: lists of cases. -/
namespace Go.Proofs.Ytaobaeiohjgdcaa
open Go Go.V Go.RowKit
theorem IntsV.one {M : Mem} {v : Value} {l : List Int} (h : IntsV M v l) : v.oneCell' = true := by obtain ⟨ad, c, rfl, _⟩ := h.get; rfl
theorem RegV.one {M : Mem} {v : Value} {l : List (List Pt)} (h : RegV M v l) : v.oneCell' = true := by obtain ⟨ad, c, rfl, _⟩ := h.get; rfl
theorem gc_step {cs : List CaseS} {i : Nat} (h1 : case1 (gc cs i) = true) (h2 : 0 < i → caseC (gc cs (i - 1)) (gc cs i) < 0) : caseV cs i = true := by
  simp only [caseV, h1, Bool.true_and, Bool.or_eq_true, beq_iff_eq, decide_eq_true_eq]
  by_cases e : i = 0
  · exact .inl e
  · exact .inr (h2 (by omega))
theorem casesR_fn (v : Value) (cs : List CaseS) (M : Mem) (hv : CasV M v cs) : FnP Try.prog 24 [v] M [.bool (casesB cs)] := by
  obtain ⟨ad, c, rfl, hm, hrd⟩ := hv.get
  refine Fn.of_vc cxOK Try.func24 rfl rfl rfl ?_
  repeat (first | refine VIf.tt ?_ | refine VIf.ff ?_)
  refine VCode.loop cxOK Nat (fun i => ⟨[(0, .v (.slice ad cs.length c)), (3, .v (.int .i64 i))], [], 0, M, 68, ⟨fun _ => none, none, fun _ => none⟩⟩)
    (fun i => i ≤ cs.length ∧ ∀ j, j < i → caseV cs j = true) (fun i => cs.length - i) 0 ⟨Nat.zero_le _, fun j hj => by omega⟩ (Wk.mk' id (by repeat' constructor) (by repeat' constructor) (injOK_id _) rfl rfl rfl) ?_
  rintro i ⟨hi, hz⟩ m
  repeat (first | refine VIf.tt ?_ | refine VIf.ff ?_)
  refine VIf.mk (fun hlt => ?_) (fun hge => ?_)
  · have hlt : i < cs.length := lt_of_dec hlt
    obtain ⟨ad', a, b, s, rfl, ha, hb, hs, hc1⟩ := hrd M (Mem.le_refl _) i hlt
    have bad : caseV cs i = false → casesB cs = false := fun h => by simp [casesB, all_false hlt h]
    have bad1 : case1 (gc cs i) = false → casesB cs = false := fun h => bad (by simp [caseV, h])
    repeat (first | refine VIf.tt ?_ | refine VIf.ff ?_)
    refine VIdx.mk ad' i rfl rfl hlt ?_
    repeat (first | refine VIf.tt ?_ | refine VIf.ff ?_)
    refine VRead.mk s (hc1 2 _ rfl) ?_
    repeat (first | refine VIf.tt ?_ | refine VIf.ff ?_)
    refine VFn.p (regValidR_fn s _ M hs) ?_
    repeat (first | refine VIf.tt ?_ | refine VIf.ff ?_)
    refine VIdx.mk ad' i rfl rfl hlt ?_
    repeat (first | refine VIf.tt ?_ | refine VIf.ff ?_)
    refine VRead.mk a (hc1 0 _ rfl) ?_
    repeat (first | refine VIf.tt ?_ | refine VIf.ff ?_)
    refine VFn.p (risingR_fn a _ 1 8 M ha) ?_
    repeat (first | refine VIf.tt ?_ | refine VIf.ff ?_)
    refine VIdx.mk ad' i rfl rfl hlt ?_
    repeat (first | refine VIf.tt ?_ | refine VIf.ff ?_)
    refine VRead.mk b (hc1 1 _ rfl) ?_
    repeat (first | refine VIf.tt ?_ | refine VIf.ff ?_)
    refine VFn.p (risingR_fn b _ 0 3999 M hb) ?_
    repeat (first | refine VIf.tt ?_ | refine VIf.ff ?_)
    refine VIf.mk (fun h1 => ?_) (fun h1 => ?_)
    · repeat (first | refine VIf.tt ?_ | refine VIf.ff ?_)
      refine VFact.mk ⟨?_, rfl⟩ trivial
      rw [bad1 (by simp [case1, bn1 h1])]
    repeat (first | refine VIf.tt ?_ | refine VIf.ff ?_)
    refine VIf.mk (fun h2 => ?_) (fun h2 => ?_)
    · repeat (first | refine VIf.tt ?_ | refine VIf.ff ?_)
      refine VFact.mk ⟨?_, rfl⟩ trivial
      rw [bad1 (by simp [case1, bn1 h2])]
    repeat (first | refine VIf.tt ?_ | refine VIf.ff ?_)
    refine VIf.mk (fun h3 => ?_) (fun h3 => ?_)
    · repeat (first | refine VIf.tt ?_ | refine VIf.ff ?_)
      refine VFact.mk ⟨?_, rfl⟩ trivial
      rw [bad1 (by simp [case1, bn1 h3])]
    obtain ⟨sd, sc, rfl⟩ := hs.shape
    repeat (first | refine VIf.tt ?_ | refine VIf.ff ?_)
    refine VIdx.mk ad' i rfl rfl hlt ?_
    repeat (first | refine VIf.tt ?_ | refine VIf.ff ?_)
    refine VRead.mk _ (hc1 2 _ rfl) ?_
    repeat (first | refine VIf.tt ?_ | refine VIf.ff ?_)
    refine VIf.mk (fun h4 => ?_) (fun h4 => ?_)
    · repeat (first | refine VIf.tt ?_ | refine VIf.ff ?_)
      refine VFact.mk ⟨?_, rfl⟩ trivial
      have h4 : (gc cs i).st = [] := by
        have : ((gc cs i).st.length : Int) = 0 := by simpa using h4
        exact List.eq_nil_of_length_eq_zero (by omega)
      rw [bad1 (by simp [case1, h4])]
    have hc : case1 (gc cs i) = true := by
      have h4 : (gc cs i).st ≠ [] := fun e => by rw [e] at h4; simp at h4
      simp [case1, bn2 h1, bn2 h2, bn2 h3, h4]
    have prev : 0 < i → case1 (gc cs (i - 1)) = true := fun h0 => by
      have := hz (i - 1) (by omega)
      simp only [caseV, Bool.and_eq_true] at this
      exact this.1
    repeat (first | refine VIf.tt ?_ | refine VIf.ff ?_)
    refine VDraw.go (by kernel_rfl) ?_
    repeat (first | refine VIf.tt ?_ | refine VIf.ff ?_)
    refine VIf.mk (fun h5 => ?_) (fun h5 => ?_)
    · have h5 : 0 < i := by have := of_decide_eq_true h5; omega
      obtain ⟨_, a', b', s', he, ha', hb', hs', hc2⟩ := hrd M (Mem.le_refl _) (i - 1) (by omega)
      cases he
      have hp := prev h5
      simp only [case1, Bool.and_eq_true] at hp
      repeat (first | refine VIf.tt ?_ | refine VIf.ff ?_)
      refine VArith.ok (by first | omega | (simp only; omega)) (by first | omega | (simp only; omega)) ?_
      repeat (first | refine VIf.tt ?_ | refine VIf.ff ?_)
      refine VIdx.mk ad' (i - 1) rfl (by omega) (by omega) ?_
      repeat (first | refine VIf.tt ?_ | refine VIf.ff ?_)
      refine VReads.mk [a', b', s'] rfl hc2 ?_
      repeat (first | refine VIf.tt ?_ | refine VIf.ff ?_)
      refine VIdx.mk ad' i rfl rfl hlt ?_
      repeat (first | refine VIf.tt ?_ | refine VIf.ff ?_)
      refine VReads.mk [a, b, .slice sd (gc cs i).st.length sc] rfl hc1 ?_
      repeat (first | refine VIf.tt ?_ | refine VIf.ff ?_)
      refine VFn.p (caseR_fn (gc cs (i - 1)) (gc cs i) _ _ _ _ _ _ M ha' hb' ha hb (small_of hp.1.2 (by omega) (by omega)) (small_of hp.2 (by omega) (by omega)) (small_of (bn2 h2) (by omega) (by omega)) (small_of (bn2 h3) (by omega) (by omega)) hs'.one rfl) ?_
      have hsg := caseR_sgn (gc cs (i - 1)) (gc cs i)
      repeat (first | refine VIf.tt ?_ | refine VIf.ff ?_)
      refine VIf.mk (fun h6 => ?_) (fun h6 => ?_)
      · repeat (first | refine VIf.tt ?_ | refine VIf.ff ?_)
        refine VFact.mk ⟨?_, rfl⟩ trivial
        have h6 := of_decide_eq_true h6
        rw [bad (by simp only [caseV, Bool.and_eq_false_iff, Bool.or_eq_false_iff, beq_eq_false_iff_ne, decide_eq_false_iff_not]; omega)]
      · have h6 := of_decide_eq_false h6
        repeat (first | refine VIf.tt ?_ | refine VIf.ff ?_)
        refine VArith.ok (by first | omega | (simp only; omega)) (by first | omega | (simp only; omega)) ?_
        exact ⟨i + 1, ⟨hlt, stepI hz (gc_step hc fun _ => by omega)⟩, (by first | omega | (simp only; omega)), (Wk.mk' id (by repeat' constructor) (by repeat' constructor) (injOK_id _) rfl rfl rfl)⟩
    · have h5 : i = 0 := by have := of_decide_eq_false h5; omega
      repeat (first | refine VIf.tt ?_ | refine VIf.ff ?_)
      refine VArith.ok (by first | omega | (simp only; omega)) (by first | omega | (simp only; omega)) ?_
      exact ⟨i + 1, ⟨hlt, stepI hz (gc_step hc fun _ => by omega)⟩, (by first | omega | (simp only; omega)), (Wk.mk' id (by repeat' constructor) (by repeat' constructor) (injOK_id _) rfl rfl rfl)⟩
  · have : i = cs.length := by have := ge_of_dec hge; omega
    subst this
    repeat (first | refine VIf.tt ?_ | refine VIf.ff ?_)
    refine VFact.mk ⟨?_, rfl⟩ trivial
    rw [casesB, all_true hz, Bool.and_true]
    refine bool1 ?_
    simp only [decide_eq_true_eq]; omega
theorem casesC_fn (v : Value) (cs : List CaseS) (M : Mem) (hv : CasV M v cs) : V.Fn Try.prog 47 [v] M fun rs _ => rs = [.bool (casesB cs)] := by
  obtain ⟨ad, c, rfl, hm, hrd⟩ := hv.get
  refine Fn.of_vc cxOK Try.func47 rfl rfl rfl ?_
  repeat (first | refine VIf.tt ?_ | refine VIf.ff ?_)
  refine VIf.mk (fun hb => ?_) (fun hb => ?_)
  · repeat (first | refine VIf.tt ?_ | refine VIf.ff ?_)
    refine VFact.mk ?_ trivial
    have hb : ¬ cs.length ≤ 200 := by have := of_decide_eq_true hb; omega
    simp [casesB, hb]
  have hb : cs.length ≤ 200 := by have := of_decide_eq_false hb; omega
  repeat (first | refine VIf.tt ?_ | refine VIf.ff ?_)
  refine VCode.loop cxOK (Nat × Mem) (fun s => ⟨[(0, .v (.slice ad cs.length c)), (8, .v (.slice ad cs.length c)), (9, .v (.int .i64 cs.length)), (10, .v (.int .i64 s.1))], [], 0, s.2, 50, ⟨fun _ => none, none, fun _ => none⟩⟩)
    (fun s => M.le s.2 ∧ s.1 ≤ cs.length ∧ ∀ j, j < s.1 → caseV cs j = true) (fun s => cs.length - s.1) (0, M) ⟨Mem.le_refl _, Nat.zero_le _, fun j hj => by simp at hj⟩ (Wk.mk' id (by repeat' constructor) (by repeat' constructor) (injOK_id _) rfl rfl rfl) ?_
  rintro ⟨i, M1⟩ ⟨hM1, hi, hz⟩ m
  have hM1 : M.le M1 := hM1
  have hi : i ≤ cs.length := hi
  have hz : ∀ j, j < i → caseV cs j = true := hz
  repeat (first | refine VIf.tt ?_ | refine VIf.ff ?_)
  refine VIf.mk (fun hlt => ?_) (fun hge => ?_)
  · have hlt : i < cs.length := lt_of_dec hlt
    obtain ⟨ad', a, b, s, rfl, ha, hb', hs, hc1⟩ := hrd M1 hM1 i hlt
    have bad : caseV cs i = false → casesB cs = false := fun h => by simp [casesB, all_false hlt h]
    have bad1 : case1 (gc cs i) = false → casesB cs = false := fun h => bad (by simp [caseV, h])
    obtain ⟨sd, sc, rfl⟩ := hs.shape
    obtain ⟨sa, sca, rfl, _⟩ := ha.get
    obtain ⟨sb, scb, rfl, _⟩ := hb'.get
    repeat (first | refine VIf.tt ?_ | refine VIf.ff ?_)
    refine VIdx.mk ad' i rfl rfl hlt ?_
    repeat (first | refine VIf.tt ?_ | refine VIf.ff ?_)
    refine VReads.mk [.slice sa (gc cs i).sn.length sca, .slice sb (gc cs i).cl.length scb, .slice sd (gc cs i).st.length sc] rfl hc1 ?_
    repeat (first | refine VIf.tt ?_ | refine VIf.ff ?_)
    refine VIf.mk (fun h4 => ?_) (fun h4 => ?_)
    · repeat (first | refine VIf.tt ?_ | refine VIf.ff ?_)
      refine VFact.mk ?_ trivial
      have h4 : (gc cs i).st = [] := by
        have : ((gc cs i).st.length : Int) = 0 := by simpa using h4
        exact List.eq_nil_of_length_eq_zero (by omega)
      rw [bad1 (by simp [case1, h4])]
    repeat (first | refine VIf.tt ?_ | refine VIf.ff ?_)
    refine VFn.mk _ (regValid_fn _ _ M1 hs) ?_
    rintro rs M2 hM2 rfl
    repeat (first | refine VIf.tt ?_ | refine VIf.ff ?_)
    refine VIf.mk (fun h1 => ?_) (fun h1 => ?_)
    · repeat (first | refine VIf.tt ?_ | refine VIf.ff ?_)
      refine VFact.mk ?_ trivial
      rw [bad1 (by simp [case1, bn1 h1])]
    repeat (first | refine VIf.tt ?_ | refine VIf.ff ?_)
    refine VFn.p (rising_fn _ _ 1 8 M2 (ha.le hM2)) ?_
    repeat (first | refine VIf.tt ?_ | refine VIf.ff ?_)
    refine VIf.mk (fun h2 => ?_) (fun h2 => ?_)
    · repeat (first | refine VIf.tt ?_ | refine VIf.ff ?_)
      refine VFact.mk ?_ trivial
      rw [bad1 (by simp [case1, bn1 h2])]
    repeat (first | refine VIf.tt ?_ | refine VIf.ff ?_)
    refine VFn.p (rising_fn _ _ 0 3999 M2 (hb'.le hM2)) ?_
    repeat (first | refine VIf.tt ?_ | refine VIf.ff ?_)
    refine VIf.mk (fun h3 => ?_) (fun h3 => ?_)
    · repeat (first | refine VIf.tt ?_ | refine VIf.ff ?_)
      refine VFact.mk ?_ trivial
      rw [bad1 (by simp [case1, bn1 h3])]
    have hc : case1 (gc cs i) = true := by
      have h4 : (gc cs i).st ≠ [] := fun e => by rw [e] at h4; simp at h4
      simp [case1, bn2 h1, bn2 h2, bn2 h3, h4]
    repeat (first | refine VIf.tt ?_ | refine VIf.ff ?_)
    refine VDraw.go (by kernel_rfl) ?_
    repeat (first | refine VIf.tt ?_ | refine VIf.ff ?_)
    refine VIf.mk (fun h5 => ?_) (fun h5 => ?_)
    · have h5 : 0 < i := by have := of_decide_eq_true h5; omega
      obtain ⟨_, a', b', s', he, ha', hb'', hs', hc2⟩ := hrd M2 (hM1.trans hM2) (i - 1) (by omega)
      cases he
      repeat (first | refine VIf.tt ?_ | refine VIf.ff ?_)
      refine VArith.ok (by first | omega | (simp only; omega)) (by first | omega | (simp only; omega)) ?_
      repeat (first | refine VIf.tt ?_ | refine VIf.ff ?_)
      refine VIdx.mk ad' (i - 1) rfl (by omega) (by omega) ?_
      repeat (first | refine VIf.tt ?_ | refine VIf.ff ?_)
      refine VReads.mk [a', b', s'] rfl hc2 ?_
      repeat (first | refine VIf.tt ?_ | refine VIf.ff ?_)
      refine VFn.mk _ (caseC_fn (gc cs (i - 1)) (gc cs i) _ _ _ _ _ _ M2 ha' hb'' (ha.le hM2) (hb'.le hM2)) ?_
      rintro rs M3 hM3 rfl
      repeat (first | refine VIf.tt ?_ | refine VIf.ff ?_)
      refine VIf.mk (fun h6 => ?_) (fun h6 => ?_)
      · repeat (first | refine VIf.tt ?_ | refine VIf.ff ?_)
        refine VFact.mk ?_ trivial
        have h6 := of_decide_eq_true h6
        rw [bad (by simp only [caseV, Bool.and_eq_false_iff, Bool.or_eq_false_iff, beq_eq_false_iff_ne, decide_eq_false_iff_not]; omega)]
      · have h6 := of_decide_eq_false h6
        repeat (first | refine VIf.tt ?_ | refine VIf.ff ?_)
        refine VArith.ok (by first | omega | (simp only; omega)) (by first | omega | (simp only; omega)) ?_
        exact ⟨(i + 1, M3), ⟨(hM1.trans hM2).trans hM3, hlt, stepI hz (gc_step hc fun _ => by omega)⟩, (by first | omega | (simp only; omega)), (Wk.mk' id (by repeat' constructor) (by repeat' constructor) (injOK_id _) rfl rfl rfl)⟩
    · have h5 : i = 0 := by have := of_decide_eq_false h5; omega
      repeat (first | refine VIf.tt ?_ | refine VIf.ff ?_)
      refine VArith.ok (by first | omega | (simp only; omega)) (by first | omega | (simp only; omega)) ?_
      exact ⟨(i + 1, M2), ⟨hM1.trans hM2, hlt, stepI hz (gc_step hc fun _ => by omega)⟩, (by first | omega | (simp only; omega)), (Wk.mk' id (by repeat' constructor) (by repeat' constructor) (injOK_id _) rfl rfl rfl)⟩
  · have : i = cs.length := by have := ge_of_dec hge; omega
    subst this
    repeat (first | refine VIf.tt ?_ | refine VIf.ff ?_)
    refine VFact.mk ?_ trivial
    simp [casesB, all_true hz, hb]
end Go.Proofs.Ytaobaeiohjgdcaa

/- Contracts: cut.Within, and the reference's. -/
namespace Go.Proofs.Ytaobaeiohjgdcaa
open Go Go.V Go.RowKit
theorem len_eq (a b : Nat) : ((a : Int) == (b : Int)) = decide (a = b) := by rw [Bool.eq_iff_iff]; simp; omega
theorem injOK_one (r : Nat → Nat) (i : Nat) (e : Option OE) : injOK r [(i, e)] := ⟨fun j hj => by simp at hj, trivial⟩
theorem take_filter {α : Type} (d : α) (g : α → Bool) (l : List α) {i : Nat} (h : i < l.length) : (l.take (i + 1)).filter g = (l.take i).filter g ++ (if g (l.getD i d) = true then [l.getD i d] else []) := by
  rw [List.take_add_one, List.filter_append]
  simp [h, List.filter_cons]
theorem cellsP_snoc (l : List Pt) (p : Pt) : cellsP (l ++ [p]) = cellsP l ++ [.int .i64 p.1, .int .i64 p.2] := by simp [cellsP]
theorem flt_le {α : Type} (g : α → Bool) (l : List α) (i : Nat) : ((l.take i).filter g).length ≤ l.length := Nat.le_trans (List.length_filter_le _ _) (by rw [List.length_take]; omega)
theorem valid_len {ps : List Pt} (h : validB ps = true) : 1 ≤ ps.length ∧ ps.length ≤ 64 := by simp only [validB, Bool.and_eq_true, decide_eq_true_eq] at h; exact h.1.1
theorem allC_place {ps : List Pt} (h : allC ps) {i : Nat} (hi : i < ps.length) : placeB (gp ps i) = true := by
  simp only [placeB, Bool.and_eq_true]; exact ⟨isCb_iff.2 (h i hi).1, isCb_iff.2 (h i hi).2⟩
theorem isC_i64 {x : Int} (h : isC x) : i64r x := by unfold isC i64r at *; omega
theorem corners_fn (v w : Value) (ps qs : List Pt) (M : Mem) (hv : Pts M v ps) (hw : Pts M w qs) (hC : allC ps) (hl : ps.length ≤ 100000) (hq : validB qs = true) : V.Fn Try.prog 109 [v, w] M fun rs M' => ∃ u, rs = [u] ∧ Pts M' u (ps.filter (hasB qs)) := by
  obtain ⟨ad, c, rfl⟩ := hv.shape
  obtain ⟨_, hm, hrd⟩ := hv.cellsOf
  unfold maxLen at hm
  refine Fn.of_vc cxOK Try.func109 rfl rfl rfl ?_
  have hq64 : i64P qs := fun i hi => ⟨isC_i64 (allC_of hq i hi).1, isC_i64 (allC_of hq i hi).2⟩
  repeat (first | refine VIf.tt ?_ | refine VIf.ff ?_)
  refine VCode.loop cxOK (Nat × Mem × List Pt)
    (fun s => ⟨[(0, .v (.slice ad ps.length c)), (1, .v w), (5, .row 0), (10, .v (.slice ad ps.length c)), (11, .v (.int .i64 ps.length)), (12, .v (.int .i64 s.1))], [(0, some (.row 39 2 s.2.2.length (cellsP s.2.2)))], 1, s.2.1, 29, ⟨fun _ => none, none, fun _ => none⟩⟩)
    (fun s => M.le s.2.1 ∧ s.1 ≤ ps.length ∧ s.2.2 = (ps.take s.1).filter (hasB qs)) (fun s => ps.length - s.1) (0, M, []) ⟨Mem.le_refl _, Nat.zero_le _, by simp⟩ ?_ ?_
  · exact Wk.nil 5 39 2 rfl (Wk.mk' id (by repeat' constructor) (by repeat' constructor) (injOK_id _) rfl rfl rfl)
  rintro ⟨i, M1, F⟩ ⟨hM1, hi, hF⟩ m
  have hM1 : M.le M1 := hM1
  have hi : i ≤ ps.length := hi
  have hF : F = (ps.take i).filter (hasB qs) := hF
  have hFl : F.length ≤ ps.length := by rw [hF]; exact flt_le _ _ _
  repeat (first | refine VIf.tt ?_ | refine VIf.ff ?_)
  refine VIf.mk (fun hlt => ?_) (fun hge => ?_)
  · have hlt : i < ps.length := lt_of_dec hlt
    obtain ⟨ad', rfl, hpi⟩ := hrd M1 hM1 i hlt
    have hs := take_filter (0, 0) (hasB qs) ps hlt
    rw [← hF] at hs
    repeat (first | refine VIf.tt ?_ | refine VIf.ff ?_)
    refine VIdx.mk ad' i rfl rfl hlt ?_
    repeat (first | refine VIf.tt ?_ | refine VIf.ff ?_)
    refine VReads.mk [.int .i64 (gp ps i).1, .int .i64 (gp ps i).2] rfl hpi ?_
    repeat (first | refine VIf.tt ?_ | refine VIf.ff ?_)
    refine VFn.mk _ (Has_fn w qs (gp ps i).1 (gp ps i).2 M1 (hw.le hM1) hq64 (isC_i64 (hC i hlt).1) (isC_i64 (hC i hlt).2)) ?_
    rintro rs M2 hM2 rfl
    rw [hq, allC_place hC hlt]
    repeat (first | refine VIf.tt ?_ | refine VIf.ff ?_)
    refine VIf.mk (fun hb => ?_) (fun hb => ?_)
    · repeat (first | refine VIf.tt ?_ | refine VIf.ff ?_)
      refine VFact.mk (by simp only; omega) ?_
      repeat (first | refine VIf.tt ?_ | refine VIf.ff ?_)
      refine VArith.ok (by first | omega | (simp only; omega)) (by first | omega | (simp only; omega)) ?_
      rw [show hasB qs (ps.getD i (0, 0)) = true from hb, if_pos rfl] at hs
      exact ⟨(i + 1, M2, F ++ [gp ps i]), ⟨hM1.trans hM2, hlt, hs.symm⟩, (by first | omega | (simp only; omega)), Wk.mk' (fun _ => 3) (by repeat' constructor) ⟨⟨rfl, rfl, rfl, by simp, cellsP_snoc F _⟩, trivial⟩ (injOK_one _ _ _) rfl rfl rfl⟩
    · repeat (first | refine VIf.tt ?_ | refine VIf.ff ?_)
      refine VArith.ok (by first | omega | (simp only; omega)) (by first | omega | (simp only; omega)) ?_
      rw [show hasB qs (ps.getD i (0, 0)) = false from hb] at hs
      exact ⟨(i + 1, M2, F), ⟨hM1.trans hM2, hlt, by simpa using hs.symm⟩, (by first | omega | (simp only; omega)), (Wk.mk' id (by repeat' constructor) (by repeat' constructor) (injOK_id _) rfl rfl rfl)⟩
  · have : i = ps.length := by have := ge_of_dec hge; omega
    subst this
    repeat (first | refine VIf.tt ?_ | refine VIf.ff ?_)
    refine VFz.mk fun x B M' hle hx => ?_
    repeat (first | refine VIf.tt ?_ | refine VIf.ff ?_)
    refine VFact.mk ⟨x, rfl, ?_⟩ trivial
    rw [List.take_length] at hF
    rw [← hF]; exact hx
theorem Within_fn (v w : Value) (ps qs : List Pt) (M : Mem) (hv : Pts M v ps) (hw : Pts M w qs) (hp64 : i64P ps) (hq64 : i64P qs) : V.Fn Try.prog 85 [v, w] M fun rs _ => rs = if (validB ps && validB qs) = true then [.bool (withinB ps qs), .int .i64 0] else [.bool false, .int .i64 1] := by
  obtain ⟨ad, c, rfl⟩ := hv.shape
  refine Fn.of_vc cxOK Try.func85 rfl rfl rfl ?_
  repeat (first | refine VIf.tt ?_ | refine VIf.ff ?_)
  refine VFn.mk _ (Valid_fn _ ps M hv hp64) ?_
  rintro rs M1 hM1 rfl
  repeat (first | refine VIf.tt ?_ | refine VIf.ff ?_)
  refine VIf.mk (fun h1 => ?_) (fun h1 => ?_)
  · repeat (first | refine VIf.tt ?_ | refine VIf.ff ?_)
    refine VFact.mk ?_ trivial
    rw [bn1 h1]; rfl
  repeat (first | refine VIf.tt ?_ | refine VIf.ff ?_)
  refine VFn.mk _ (Valid_fn _ qs M1 (hw.le hM1) hq64) ?_
  rintro rs M2 hM2 rfl
  repeat (first | refine VIf.tt ?_ | refine VIf.ff ?_)
  refine VIf.mk (fun h2 => ?_) (fun h2 => ?_)
  · repeat (first | refine VIf.tt ?_ | refine VIf.ff ?_)
    refine VFact.mk ?_ trivial
    rw [bn1 h2, Bool.and_false]; rfl
  have h1 := bn2 h1
  have h2 := bn2 h2
  have hl := valid_len h1
  repeat (first | refine VIf.tt ?_ | refine VIf.ff ?_)
  refine VFn.mk _ (corners_fn _ w ps qs M2 (hv.le (hM1.trans hM2)) (hw.le (hM1.trans hM2)) (allC_of h1) (by omega) h2) ?_
  rintro rs M3 hM3 ⟨u, rfl, hu⟩
  obtain ⟨ud, uc, rfl⟩ := hu.shape
  repeat (first | refine VIf.tt ?_ | refine VIf.ff ?_)
  refine VFact.mk ?_ trivial
  rw [h1, h2]
  show [Value.bool _, _] = [Value.bool _, _]
  rw [withinB, ← filter_len (hasB qs) ps, ← len_eq]
  try rfl
theorem CornersR_fn (v w : Value) (ps qs : List Pt) (M : Mem) (hv : Pts M v ps) (hw : Pts M w qs) (hC : allC ps) (hl : ps.length ≤ 100000) (hq : allC qs) : V.Fn Try.prog 117 [v, w] M fun rs M' => ∃ u, rs = [u] ∧ Pts M' u (ps.filter (hasB qs)) := by
  obtain ⟨ad, c, rfl⟩ := hv.shape
  obtain ⟨_, hm, hrd⟩ := hv.cellsOf
  unfold maxLen at hm
  refine Fn.of_vc cxOK Try.func117 rfl rfl rfl ?_
  repeat (first | refine VIf.tt ?_ | refine VIf.ff ?_)
  refine VCode.loop cxOK (Nat × List Pt)
    (fun s => ⟨[(0, .v (.slice ad ps.length c)), (1, .v w), (5, .row 0), (6, .v (.int .i64 s.1))], [(0, some (.row 39 2 s.2.length (cellsP s.2)))], 1, M, 29, ⟨fun _ => none, none, fun _ => none⟩⟩)
    (fun s => s.1 ≤ ps.length ∧ s.2 = (ps.take s.1).filter (hasB qs)) (fun s => ps.length - s.1) (0, []) ⟨Nat.zero_le _, by simp⟩ ?_ ?_
  · exact Wk.nil 5 39 2 rfl (Wk.mk' id (by repeat' constructor) (by repeat' constructor) (injOK_id _) rfl rfl rfl)
  rintro ⟨i, F⟩ ⟨hi, hF⟩ m
  have hi : i ≤ ps.length := hi
  have hF : F = (ps.take i).filter (hasB qs) := hF
  have hFl : F.length ≤ ps.length := by rw [hF]; exact flt_le _ _ _
  repeat (first | refine VIf.tt ?_ | refine VIf.ff ?_)
  refine VIf.mk (fun hlt => ?_) (fun hge => ?_)
  · have hlt : i < ps.length := lt_of_dec hlt
    obtain ⟨ad', rfl, hpi⟩ := hrd M (Mem.le_refl _) i hlt
    have hs := take_filter (0, 0) (hasB qs) ps hlt
    rw [← hF] at hs
    repeat (first | refine VIf.tt ?_ | refine VIf.ff ?_)
    refine VIdx.mk ad' i rfl rfl hlt ?_
    repeat (first | refine VIf.tt ?_ | refine VIf.ff ?_)
    refine VReads.mk [.int .i64 (gp ps i).1, .int .i64 (gp ps i).2] rfl hpi ?_
    repeat (first | refine VIf.tt ?_ | refine VIf.ff ?_)
    refine VFn.p (Inside_fn w qs (gp ps i).1 (gp ps i).2 M hw hq (hC i hlt).1 (hC i hlt).2) ?_
    repeat (first | refine VIf.tt ?_ | refine VIf.ff ?_)
    refine VIf.mk (fun hb => ?_) (fun hb => ?_)
    · repeat (first | refine VIf.tt ?_ | refine VIf.ff ?_)
      refine VIdx.mk ad' i rfl rfl hlt ?_
      repeat (first | refine VIf.tt ?_ | refine VIf.ff ?_)
      refine VReads.mk [.int .i64 (gp ps i).1, .int .i64 (gp ps i).2] rfl hpi ?_
      repeat (first | refine VIf.tt ?_ | refine VIf.ff ?_)
      refine VFact.mk (by simp only; omega) ?_
      repeat (first | refine VIf.tt ?_ | refine VIf.ff ?_)
      refine VArith.ok (by first | omega | (simp only; omega)) (by first | omega | (simp only; omega)) ?_
      rw [show hasB qs (ps.getD i (0, 0)) = true from hb, if_pos rfl] at hs
      exact ⟨(i + 1, F ++ [gp ps i]), ⟨hlt, hs.symm⟩, (by first | omega | (simp only; omega)), Wk.mk' (fun _ => 2) (by repeat' constructor) ⟨⟨rfl, rfl, rfl, by simp, cellsP_snoc F _⟩, trivial⟩ (injOK_one _ _ _) rfl rfl rfl⟩
    · repeat (first | refine VIf.tt ?_ | refine VIf.ff ?_)
      refine VArith.ok (by first | omega | (simp only; omega)) (by first | omega | (simp only; omega)) ?_
      rw [show hasB qs (ps.getD i (0, 0)) = false from hb] at hs
      exact ⟨(i + 1, F), ⟨hlt, by simpa using hs.symm⟩, (by first | omega | (simp only; omega)), (Wk.mk' id (by repeat' constructor) (by repeat' constructor) (injOK_id _) rfl rfl rfl)⟩
  · have : i = ps.length := by have := ge_of_dec hge; omega
    subst this
    repeat (first | refine VIf.tt ?_ | refine VIf.ff ?_)
    refine VFz.mk fun x B M' hle hx => ?_
    repeat (first | refine VIf.tt ?_ | refine VIf.ff ?_)
    refine VFact.mk ⟨x, rfl, ?_⟩ trivial
    rw [List.take_length] at hF
    rw [← hF]; exact hx
theorem Lies_fn (v w : Value) (ps qs : List Pt) (M : Mem) (hv : Pts M v ps) (hw : Pts M w qs) (hC : allC ps) (hl : ps.length ≤ 100000) (hq : allC qs) : V.Fn Try.prog 110 [v, w] M fun rs _ => rs = [.bool (withinB ps qs)] := by
  obtain ⟨ad, c, rfl⟩ := hv.shape
  refine Fn.of_vc cxOK Try.func110 rfl rfl rfl ?_
  repeat (first | refine VIf.tt ?_ | refine VIf.ff ?_)
  refine VFn.mk _ (CornersR_fn _ w ps qs M hv hw hC hl hq) ?_
  rintro rs M3 hM3 ⟨u, rfl, hu⟩
  obtain ⟨ud, uc, rfl⟩ := hu.shape
  repeat (first | refine VIf.tt ?_ | refine VIf.ff ?_)
  refine VFact.mk ?_ trivial
  rw [withinB, ← filter_len (hasB qs) ps, ← len_eq]
end Go.Proofs.Ytaobaeiohjgdcaa

/- Contracts: the polygons of cases, one after the other. -/
namespace Go.Proofs.Ytaobaeiohjgdcaa
open Go Go.V Go.RowKit
/-- Values that say polygons. -/
def PW (M : Mem) : List Value → List (List Pt) → Prop
  | [], [] => True
  | w :: ws, p :: ps => (Pts M w p ∧ i64P p) ∧ PW M ws ps
  | _, _ => False
theorem PW.append {M : Mem} : ∀ {a : List Value} {b : List (List Pt)} {c d}, PW M a b → PW M c d → PW M (a ++ c) (b ++ d)
  | [], [], _, _, _, h => h
  | _ :: _, _ :: _, _, _, h, k => ⟨h.1, PW.append h.2 k⟩
  | [], _ :: _, _, _, h, _ => h.elim
  | _ :: _, [], _, _, h, _ => h.elim
theorem PW.get {M : Mem} : ∀ {a : List Value} {b : List (List Pt)}, PW M a b → a.length = b.length ∧ ∀ k w, a[k]? = some w → Pts M w (gr b k) ∧ i64P (gr b k)
  | [], [], _ => ⟨rfl, fun k w h => by simp at h⟩
  | x :: a, y :: b, h => by
    obtain ⟨h1, h2⟩ := PW.get h.2
    refine ⟨by simp [h1], fun k w hk => ?_⟩
    match k, hk with
    | 0, hk => simp at hk; subst hk; exact h.1
    | k + 1, hk => simp at hk; simpa [gr] using h2 k w hk
  | [], _ :: _, h => h.elim
  | _ :: _, [], h => h.elim
theorem PW.of {M : Mem} (d : Value) : ∀ {a : List Value} {b : List (List Pt)}, a.length = b.length → (∀ k, k < b.length → Pts M (a.getD k d) (gr b k) ∧ i64P (gr b k)) → PW M a b
  | [], [], _, _ => trivial
  | x :: a, y :: b, h, hk => ⟨by simpa [gr] using hk 0 (by simp), PW.of d (by simpa using h) fun k h' => by simpa [gr] using hk (k + 1) (by simpa using h')⟩
  | [], _ :: _, h, _ => by simp at h
  | _ :: _, [], h, _ => by simp at h
theorem PW.flat {M : Mem} (f : Nat → List Value) (g : Nat → List (List Pt)) : ∀ l : List Nat, (∀ i ∈ l, PW M (f i) (g i)) → PW M (l.flatMap f) (l.flatMap g)
  | [], _ => trivial
  | i :: l, h => by
    rw [List.flatMap_cons, List.flatMap_cons]
    exact PW.append (h i (List.mem_cons_self)) (PW.flat f g l fun j hj => h j (List.mem_cons_of_mem _ hj))
theorem flat_range {α β : Type} (d : α) (g : α → List β) (l : List α) : l.flatMap g = (List.range l.length).flatMap fun i => g (l.getD i d) := by
  have : l = (List.range l.length).map fun i => l.getD i d := by
    apply List.ext_getElem
    · simp
    · intro i h1 h2
      simp at h2
      simp [h2]
  conv => lhs; rw [this]
  rw [List.flatMap_map]
/-- A region whose polygons' values are named. -/
def RegW (M : Mem) (s : Value) (st : List (List Pt)) (ws : List Value) : Prop :=
  ws.length = st.length ∧ ∃ ad c, s = .slice ad st.length c ∧ st.length ≤ 9223372036854775807 ∧ ∀ M', M.le M' → ∀ j, j < st.length → ∃ ad', ad = some ad' ∧ M'.cell (ad'.add (j * 1)) = some (ws.getD j (.bool false)) ∧ Pts M' (ws.getD j (.bool false)) (gr st j) ∧ i64P (gr st j)
theorem RegV.w {M : Mem} {s : Value} {st : List (List Pt)} (h : RegV M s st) : ∃ ws, RegW M s st ws := by
  obtain ⟨ad, c, h1, h2, h3⟩ := h.get
  have h4 : ∀ i, ∃ w, i < st.length → ∃ ad', ad = some ad' ∧ Pts M w (gr st i) ∧ i64P (gr st i) ∧ M.cell (ad'.add (i * 1)) = some w := fun i => by
    by_cases hi : i < st.length
    · obtain ⟨ad', w, h⟩ := h3 M (Mem.le_refl _) i hi
      exact ⟨w, fun _ => ⟨ad', h⟩⟩
    · exact ⟨.bool false, fun h => absurd h hi⟩
  obtain ⟨f, hf⟩ := Classical.axiomOfChoice h4
  refine ⟨(List.range st.length).map f, by simp, ad, c, h1, h2, fun M' hM j hj => ?_⟩
  obtain ⟨ad', h5, h6, h7, h8⟩ := hf j hj
  have e : ((List.range st.length).map f).getD j (.bool false) = f j := by simp [hj]
  rw [e]
  exact ⟨ad', h5, Mem.cell_le hM h8, h6.le hM, h7⟩
theorem range_drop {n i : Nat} (h : i < n) : (List.range n).drop i = i :: (List.range n).drop (i + 1) := by
  rw [List.drop_eq_getElem_cons (by simpa using h)]; simp

theorem polygons_iter (M : Mem) (B : Nat) (v : Value) (cs : List CaseS) (hB : M B = some (.cells #[v] 22 (0, 0))) (hv : CasV M v cs) :
    ∃ ws, PW M ws (cs.flatMap (·.st)) ∧ Iter Try.prog 108 #[.pointer (some ⟨B, 0, none⟩)] M (ws.map fun w => [w]) := by
  obtain ⟨ad, c, rfl, hm, hrd⟩ := hv.get
  have h4 : ∀ i, ∃ q : Value × Value × Value × List Value, i < cs.length → ∃ ad', ad = some ad' ∧ RegW M q.2.2.1 (gc cs i).st q.2.2.2 ∧ ((∃ x y z, q.1 = .slice x y z) ∧ ∃ x y z, q.2.1 = .slice x y z) ∧ ∀ j y, [q.1, q.2.1, q.2.2.1][j]? = some y → M.cell ((ad'.add (i * 3)).add j) = some y := fun i => by
    by_cases hi : i < cs.length
    · obtain ⟨ad', a, b, s, h1, h2, h3, h4, h5⟩ := hrd M (Mem.le_refl _) i hi
      obtain ⟨ws, hw⟩ := h4.w
      exact ⟨(a, b, s, ws), fun _ => ⟨ad', h1, hw, ⟨by obtain ⟨x, z, h, _⟩ := h2.get; exact ⟨x, _, z, h⟩, by obtain ⟨x, z, h, _⟩ := h3.get; exact ⟨x, _, z, h⟩⟩, h5⟩⟩
    · exact ⟨(.bool false, .bool false, .bool false, []), fun h => absurd h hi⟩
  obtain ⟨f, hf⟩ := Classical.axiomOfChoice h4
  let g := fun i => (f i).2.2.2
  refine ⟨(List.range cs.length).flatMap g, ?_, ?_⟩
  · rw [flat_range (⟨[], [], []⟩ : CaseS)]
    refine PW.flat _ _ _ fun i hi => ?_
    obtain ⟨_, _, ⟨h1, _, _, _, _, h2⟩, _⟩ := hf i (by simpa using hi)
    refine PW.of (.bool false) h1 fun k hk => ?_
    obtain ⟨_, _, _, h3⟩ := h2 M (Mem.le_refl _) k hk
    exact h3
  refine Iter.of_vc cxOK Try.func108 rfl rfl rfl rfl fun l => ?_
  repeat (first | refine VIf.tt ?_ | refine VIf.ff ?_)
  refine VRead.mk _ (box1 hB) ?_
  repeat (first | refine VIf.tt ?_ | refine VIf.ff ?_)
  refine VCode.loopG cxOK (fun m => m = fun _ => none) rfl Nat
    (fun i => ⟨[(0, .v (.func (.yield l) #[] #[])), (7, .v (.slice ad cs.length c)), (8, .v (.int .i64 cs.length)), (9, .v (.int .i64 i))], [], 0, M, 26, ⟨fun _ => none, some (l, (((List.range cs.length).drop i).flatMap g).map fun w => [w]), fun _ => none⟩⟩)
    (fun i => i ≤ cs.length) (fun i => cs.length - i) 0 (Nat.zero_le _) ?_ ?_
  · exact (Wk.mk' id (by repeat' constructor) (by repeat' constructor) (injOK_id _) rfl rfl rfl)
  rintro i hi m rfl
  repeat (first | refine VIf.tt ?_ | refine VIf.ff ?_)
  refine VIf.mk (fun hlt => ?_) (fun hge => ?_)
  · have hlt := lt_of_dec hlt
    obtain ⟨ad', rfl, hrw, ⟨⟨x1, x2, x3, o1⟩, ⟨y1, y2, y3, o2⟩⟩, hc1⟩ := hf i hlt
    have hd := range_drop hlt
    have hgi : g i = (f i).2.2.2 := rfl
    generalize f i = q at hrw o1 o2 hc1 hgi
    obtain ⟨a, b, s, ws⟩ := q
    simp only at hrw o1 o2 hc1 hgi
    subst o1 o2
    obtain ⟨hwl, sd, sc, rfl, hsm, hsr⟩ := hrw
    repeat (first | refine VIf.tt ?_ | refine VIf.ff ?_)
    refine VIdx.mk ad' i rfl rfl hlt ?_
    repeat (first | refine VIf.tt ?_ | refine VIf.ff ?_)
    refine VReads.mk [.slice x1 x2 x3, .slice y1 y2 y3, .slice sd (gc cs i).st.length sc] rfl hc1 ?_
    have hrest : ((List.range cs.length).drop i).flatMap g = ws ++ ((List.range cs.length).drop (i + 1)).flatMap g := by rw [hd, List.flatMap_cons, hgi]
    repeat (first | refine VIf.tt ?_ | refine VIf.ff ?_)
    refine VCode.loopG cxOK (fun m => m = fun _ => none) rfl Nat
      (fun j => ⟨[(0, .v (.func (.yield l) #[] #[])), (7, .v (.slice (some ad') cs.length c)), (8, .v (.int .i64 cs.length)), (9, .v (.int .i64 i)), (14, .v (.slice sd (gc cs i).st.length sc)), (15, .v (.int .i64 (gc cs i).st.length)), (16, .v (.int .i64 j))], [], 0, M, 26, ⟨fun _ => none, some (l, (ws.drop j ++ ((List.range cs.length).drop (i + 1)).flatMap g).map fun w => [w]), fun _ => none⟩⟩)
      (fun j => j ≤ (gc cs i).st.length) (fun j => (gc cs i).st.length - j) 0 (Nat.zero_le _) ?_ ?_
    · refine Wk.mk' id (by repeat' constructor) (by repeat' constructor) (injOK_id _) rfl rfl ?_
      show some (l, _) = some (l, _)
      rw [hrest]; rfl
    rintro j hj m rfl
    repeat (first | refine VIf.tt ?_ | refine VIf.ff ?_)
    refine VIf.mk (fun hlj => ?_) (fun hgj => ?_)
    · have hlj := lt_of_dec hlj
      obtain ⟨sd', rfl, hc2, hp, hp64⟩ := hsr M (Mem.le_refl _) j hlj
      repeat (first | refine VIf.tt ?_ | refine VIf.ff ?_)
      refine VIdx.mk sd' j rfl rfl hlj ?_
      repeat (first | refine VIf.tt ?_ | refine VIf.ff ?_)
      refine VRead.mk _ hc2 ?_
      repeat (first | refine VIf.tt ?_ | refine VIf.ff ?_)
      refine VYield.mk ((ws.drop (j + 1) ++ ((List.range cs.length).drop (i + 1)).flatMap g).map fun w => [w]) ?_ ?_ ?_
      · simp only [Gh.mk.injEq, and_true, true_and, Option.some.injEq, Prod.mk.injEq]
        have hdj : ws.drop j = ws.getD j (.bool false) :: ws.drop (j + 1) := by
          rw [List.drop_eq_getElem_cons (i := j) (by omega)]; simp [show j < ws.length by omega]
        rw [hdj]; rfl
      · refine VIf.ff ?_
        repeat (first | refine VIf.tt ?_ | refine VIf.ff ?_)
        refine VArith.ok (by first | omega | (simp only; omega)) (by first | omega | (simp only; omega)) ?_
        exact ⟨rfl, j + 1, hlj, (by first | omega | (simp only; omega)), (Wk.mk' id (by repeat' constructor) (by repeat' constructor) (injOK_id _) rfl rfl rfl)⟩
      · refine VIf.tt ?_
        exact VEnd.stop rfl
    · have : j = (gc cs i).st.length := by have := ge_of_dec hgj; omega
      subst this
      repeat (first | refine VIf.tt ?_ | refine VIf.ff ?_)
      refine VArith.ok (by first | omega | (simp only; omega)) (by first | omega | (simp only; omega)) ?_
      refine ⟨rfl, i + 1, hlt, (by first | omega | (simp only; omega)), Wk.mk' id (by repeat' constructor) (by repeat' constructor) (injOK_id _) rfl rfl ?_⟩
      show some (l, _) = some (l, _)
      rw [← hwl, List.drop_length]; rfl
  · have : i = cs.length := by have := ge_of_dec hge; omega
    subst this
    exact VEnd.all (by rw [List.drop_eq_nil_of_le (by simp)]; rfl)
end Go.Proofs.Ytaobaeiohjgdcaa

/- Contracts: the kind of an alarm, in the program and in the reference. -/
namespace Go.Proofs.Ytaobaeiohjgdcaa
open Go Go.V Go.RowKit
theorem polygons_fn (v : Value) (cs : List CaseS) (M : Mem) (hv : CasV M v cs) : V.Fn Try.prog 84 [v] M fun rs M' => ∃ B, rs = [.func (.func 108) #[] #[.pointer (some ⟨B, 0, none⟩)]] ∧ M' B = some (.cells #[v] 22 (0, 0)) := by
  obtain ⟨ad, c, rfl, _⟩ := hv.get
  refine Fn.of_vc cxOK Try.func84 rfl rfl rfl ?_
  repeat (first | refine VIf.tt ?_ | refine VIf.ff ?_)
  refine VFzB.mk fun x B M' hle hB => ?_
  repeat (first | refine VIf.tt ?_ | refine VIf.ff ?_)
  exact VFact.mk ⟨B, rfl, hB⟩ trivial
theorem cases_valid {cs : List CaseS} (h : casesB cs = true) {i : Nat} (hi : i < cs.length) : (gc cs i).st.all validB = true := by
  simp only [casesB, Bool.and_eq_true, all_iff] at h
  have := h.2 i hi
  simp only [caseV, case1, regionB, Bool.and_eq_true] at this
  exact this.1.1.1.2.2
theorem polys_valid {cs : List CaseS} (h : casesB cs = true) {k : Nat} (hk : k < (cs.flatMap (·.st)).length) : validB (gr (cs.flatMap (·.st)) k) = true := by
  have hm : gr (cs.flatMap (·.st)) k ∈ cs.flatMap (·.st) := by
    simp only [gr, List.getD_eq_getElem?_getD, List.getElem?_eq_getElem hk, Option.getD_some]; exact List.getElem_mem hk
  obtain ⟨c, hc, hp⟩ := List.mem_flatMap.1 hm
  obtain ⟨i, hi, rfl⟩ := List.getElem_of_mem hc
  have := cases_valid h hi
  simp only [gc, List.getD_eq_getElem?_getD, List.getElem?_eq_getElem hi, Option.getD_some] at this
  exact List.all_eq_true.1 this _ hp
theorem left_flat (cs : List CaseS) (q : List Pt) : leftB cs q = (cs.flatMap (·.st)).any fun p => !withinB p q := by
  rw [leftB, List.any_flatMap]
theorem kind1_fn (B1 B2 : Nat) (v w : Value) (cs : List CaseS) (q : List Pt) (M : Mem) (hB1 : M B1 = some (.cells #[v] 22 (0, 0))) (hB2 : M B2 = some (.cells #[w] 24 (0, 0))) (hv : CasV M v cs) (hw : Pts M w q) (hcs : casesB cs = true) (hq : validB q = true) :
    V.Fn Try.prog 83 [.pointer (some ⟨B1, 0, none⟩), .pointer (some ⟨B2, 0, none⟩)] M fun rs _ => rs = [.bool (leftB cs q)] := by
  have hq64 : i64P q := fun i hi => ⟨isC_i64 (allC_of hq i hi).1, isC_i64 (allC_of hq i hi).2⟩
  refine Fn.of_vc cxOK Try.func83 rfl rfl rfl ?_
  repeat (first | refine VIf.tt ?_ | refine VIf.ff ?_)
  refine VRead.mk _ (box1 hB1) ?_
  repeat (first | refine VIf.tt ?_ | refine VIf.ff ?_)
  refine VFn.mk _ (polygons_fn v cs M hv) ?_
  rintro rs M1 hM1 ⟨B, rfl, hB⟩
  obtain ⟨ws, hws, hit⟩ := polygons_iter M1 B v cs hB (hv.le hM1)
  obtain ⟨hlen, hget⟩ := hws.get
  rw [left_flat]
  repeat (first | refine VIf.tt ?_ | refine VIf.ff ?_)
  refine VCode.rangeB cxOK rfl hit (fun x hx => ?_) [(0, .v (.pointer (some ⟨B1, 0, none⟩))), (1, .v (.pointer (some ⟨B2, 0, none⟩))), (2, .box 0 0)] rfl (by kernel_rfl) (by kernel_rfl) Mem
    (fun k s => ⟨[(0, .v (.pointer (some ⟨B1, 0, none⟩))), (1, .v (.pointer (some ⟨B2, 0, none⟩))), (2, .box 0 0)], [(0, some (.box 4 [.v (.bool false)]))], 1, s, 17, ⟨fun _ => none, none, fun _ => none⟩⟩)
    (fun k s => M1.le s ∧ ∀ j, j < k → withinB (gr (cs.flatMap (·.st)) j) q = true) M1 ⟨Mem.le_refl _, fun j hj => by omega⟩ ?_ (fun k s => ⟨rfl, rfl⟩) ?_ ?_
  · obtain ⟨u, _, rfl⟩ := List.mem_map.1 hx
    rfl
  · exact (Wk.mk' id (by repeat' constructor) (by repeat' constructor) (injOK_id _) rfl rfl rfl)
  · rintro k M2 args ⟨hM2, hz⟩ hxs m f
    rw [List.getElem?_map] at hxs
    obtain ⟨u, hu, rfl⟩ : ∃ u, ws[k]? = some u ∧ [u] = args := by
      cases h : ws[k]? with
      | none => rw [h] at hxs; cases hxs
      | some u => rw [h] at hxs; exact ⟨u, rfl, by simpa using hxs⟩
    have hk : k < (cs.flatMap (·.st)).length := by rw [← hlen]; exact (List.getElem?_eq_some_iff.1 hu).1
    obtain ⟨hp, hp64⟩ := hget k u hu
    have hpv := polys_valid hcs hk
    have hM2' : M.le M2 := hM1.trans hM2
    obtain ⟨ud, uc, rfl⟩ := hp.shape
    obtain ⟨wd, wc, rfl⟩ := hw.shape
    intro m'
    repeat (first | refine VIf.tt ?_ | refine VIf.ff ?_)
    refine VRead.mk _ (box1 (hM2' _ _ hB2)) ?_
    repeat (first | refine VIf.tt ?_ | refine VIf.ff ?_)
    refine VFn.mk _ (Within_fn _ _ _ q M2 (hp.le hM2) (hw.le hM2') hp64 hq64) ?_
    rintro rs M3 hM3 rfl
    rw [hpv, hq]
    repeat (first | refine VIf.tt ?_ | refine VIf.ff ?_)
    refine VIf.mk (fun hc => ?_) (fun hc => ?_)
    · refine ⟨(⟨[(0, .v (.pointer (some ⟨B1, 0, none⟩))), (1, .v (.pointer (some ⟨B2, 0, none⟩))), (2, .box 0 0)], [(0, some (.box 4 [.v (.bool true)]))], 1, M3, 17, ⟨fun _ => none, none, fun _ => none⟩⟩ : St), (Wk.mk' id (by repeat' constructor) (by repeat' constructor) (injOK_id _) rfl rfl rfl), rfl, rfl, fun m => ?_⟩
      repeat (first | refine VIf.tt ?_ | refine VIf.ff ?_)
      refine VFact.mk ?_ trivial
      rw [any_getD [] (fun p => !withinB p q) _ hk hc]
    · exact ⟨M3, ⟨hM2.trans hM3, stepI hz (bn2 hc)⟩, (Wk.mk' id (by repeat' constructor) (by repeat' constructor) (injOK_id _) rfl rfl rfl)⟩
  · rintro M2 m ⟨hM2, hz⟩
    repeat (first | refine VIf.tt ?_ | refine VIf.ff ?_)
    refine VFact.mk ?_ trivial
    rw [any_none [] _ _ fun i hi => ?_]
    have := hz i (by rw [List.length_map, hlen]; exact hi)
    simp only [gr] at this
    simp only [this, Bool.not_true]
theorem kind_fn (v w : Value) (cs : List CaseS) (q : List Pt) (M : Mem) (hv : CasV M v cs) (hw : Pts M w q) (hcs : casesB cs = true) (hq : validB q = true) :
    V.Fn Try.prog 48 [v, w] M fun rs _ => rs = [.int .i64 (kindB cs q)] := by
  obtain ⟨ad, c, rfl, hm, _⟩ := hv.get
  obtain ⟨wd, wc, rfl⟩ := hw.shape
  refine Fn.of_vc cxOK Try.func48 rfl rfl rfl ?_
  repeat (first | refine VIf.tt ?_ | refine VIf.ff ?_)
  refine VIf.mk (fun h0 => ?_) (fun h0 => ?_)
  · have h0 : cs = [] := List.eq_nil_of_length_eq_zero (by have : (cs.length : Int) = 0 := by simpa using h0
                                                           omega)
    subst h0
    repeat (first | refine VIf.tt ?_ | refine VIf.ff ?_)
    refine VArith.ok (by first | omega | (simp only; omega)) (by first | omega | (simp only; omega)) ?_
    repeat (first | refine VIf.tt ?_ | refine VIf.ff ?_)
    refine VArith.ok (by first | omega | (simp only; omega)) (by first | omega | (simp only; omega)) ?_
    repeat (first | refine VIf.tt ?_ | refine VIf.ff ?_)
    refine VFact.mk ?_ trivial
    rw [show kindB [] q = 1 from if_pos rfl]
    rfl
  · have h0 : cs ≠ [] := fun e => by rw [e] at h0; simp at h0
    repeat (first | refine VIf.tt ?_ | refine VIf.ff ?_)
    refine VOwn.frz ?_
    repeat (first | refine VIf.tt ?_ | refine VIf.ff ?_)
    refine VFzB.mk fun x1 B1 M1 hM1 hB1 => ?_
    repeat (first | refine VIf.tt ?_ | refine VIf.ff ?_)
    refine VFzB.mk fun x2 B2 M2 hM2 hB2 => ?_
    repeat (first | refine VIf.tt ?_ | refine VIf.ff ?_)
    refine VFn.mk _ (kind1_fn B1 B2 _ _ cs q M2 (hM2 _ _ hB1) hB2 (hv.le (hM1.trans hM2)) (hw.le (hM1.trans hM2)) hcs hq) ?_
    rintro rs M3 hM3 rfl
    repeat (first | refine VIf.tt ?_ | refine VIf.ff ?_)
    refine VIf.mk (fun hl => ?_) (fun hl => ?_)
    · repeat (first | refine VIf.tt ?_ | refine VIf.ff ?_)
      refine VArith.ok (by first | omega | (simp only; omega)) (by first | omega | (simp only; omega)) ?_
      repeat (first | refine VIf.tt ?_ | refine VIf.ff ?_)
      refine VFact.mk ?_ trivial
      rw [kindB, if_neg h0, if_pos hl]; rfl
    · repeat (first | refine VIf.tt ?_ | refine VIf.ff ?_)
      refine VFact.mk ?_ trivial
      rw [kindB, if_neg h0, if_neg (by rw [hl]; exact Bool.false_ne_true)]
theorem InsideR_fn (a b s w : Value) (st : List (List Pt)) (q : List Pt) (M : Mem) (hs : RegV M s st) (ha : ∃ x y z, a = .slice x y z) (hb : ∃ x y z, b = .slice x y z) (hw : Pts M w q) (hst : st.all validB = true) (hq : validB q = true) :
    V.Fn Try.prog 86 [.agg #[a, b, s], w] M fun rs _ => rs = [.bool (st.all fun p => withinB p q)] := by
  obtain ⟨a1, a2, a3, rfl⟩ := ha
  obtain ⟨b1, b2, b3, rfl⟩ := hb
  obtain ⟨ad, c, rfl, hm, hrd⟩ := hs.get
  refine Fn.of_vc cxOK Try.func86 rfl rfl rfl ?_
  repeat (first | refine VIf.tt ?_ | refine VIf.ff ?_)
  refine VCode.loop cxOK (Nat × Mem) (fun s => ⟨[(1, .v w), (2, .box 0 0), (5, .v (.int .i64 s.1))], [(0, some (.box 46 [.v (.slice a1 a2 a3), .v (.slice b1 b2 b3), .v (.slice ad st.length c)]))], 1, s.2, 23, ⟨fun _ => none, none, fun _ => none⟩⟩)
    (fun s => M.le s.2 ∧ s.1 ≤ st.length ∧ ∀ j, j < s.1 → withinB (gr st j) q = true) (fun s => st.length - s.1) (0, M) ⟨Mem.le_refl _, Nat.zero_le _, fun j hj => by simp at hj⟩ (Wk.mk' id (by repeat' constructor) (by repeat' constructor) (injOK_id _) rfl rfl rfl) ?_
  rintro ⟨i, M1⟩ ⟨hM1, hi, hz⟩ m
  have hM1 : M.le M1 := hM1
  have hi : i ≤ st.length := hi
  have hz : ∀ j, j < i → withinB (gr st j) q = true := hz
  repeat (first | refine VIf.tt ?_ | refine VIf.ff ?_)
  refine VIf.mk (fun hlt => ?_) (fun hge => ?_)
  · have hlt : i < st.length := lt_of_dec hlt
    obtain ⟨ad', u, rfl, hp, hp64, hc1⟩ := hrd M1 hM1 i hlt
    have hpv := all_at [] hst hlt
    obtain ⟨ud, uc, rfl⟩ := hp.shape
    obtain ⟨wd, wc, rfl⟩ := hw.shape
    repeat (first | refine VIf.tt ?_ | refine VIf.ff ?_)
    refine VIdx.mk ad' i rfl rfl hlt ?_
    repeat (first | refine VIf.tt ?_ | refine VIf.ff ?_)
    refine VRead.mk _ hc1 ?_
    repeat (first | refine VIf.tt ?_ | refine VIf.ff ?_)
    refine VFn.mk _ (Lies_fn _ _ _ q M1 hp (hw.le hM1) (allC_of hpv) (by have := valid_len hpv; omega) (allC_of hq)) ?_
    rintro rs M2 hM2 rfl
    repeat (first | refine VIf.tt ?_ | refine VIf.ff ?_)
    refine VIf.mk (fun hc => ?_) (fun hc => ?_)
    · repeat (first | refine VIf.tt ?_ | refine VIf.ff ?_)
      refine VFact.mk ?_ trivial
      rw [all_getD' [] (fun p => withinB p q) _ hlt (bn1 hc)]
    · repeat (first | refine VIf.tt ?_ | refine VIf.ff ?_)
      refine VArith.ok (by first | omega | (simp only; omega)) (by first | omega | (simp only; omega)) ?_
      exact ⟨(i + 1, M2), ⟨hM1.trans hM2, hlt, stepI hz (bn2 hc)⟩, (by first | omega | (simp only; omega)), (Wk.mk' id (by repeat' constructor) (by repeat' constructor) (injOK_id _) rfl rfl rfl)⟩
  · have : i = st.length := by have := ge_of_dec hge; omega
    subst this
    repeat (first | refine VIf.tt ?_ | refine VIf.ff ?_)
    refine VFact.mk ?_ trivial
    rw [all_getD [] (fun p => withinB p q) _ hz]
theorem any_all {α : Type} (g : α → Bool) : ∀ l : List α, (l.any fun x => !g x) = !l.all g
  | [] => rfl
  | x :: l => by simp only [List.any_cons, List.all_cons, Bool.not_and, any_all g l]
theorem left_all (cs : List CaseS) (q : List Pt) : leftB cs q = !cs.all fun c => c.st.all fun p => withinB p q := by
  rw [leftB, ← any_all]
  congr 1
  funext c
  exact any_all _ _
theorem kindR_fn (v w : Value) (cs : List CaseS) (q : List Pt) (M : Mem) (hv : CasV M v cs) (hw : Pts M w q) (hcs : casesB cs = true) (hq : validB q = true) :
    V.Fn Try.prog 49 [v, w] M fun rs _ => rs = [.int .i64 (kindB cs q)] := by
  obtain ⟨ad, c, rfl, hm, hrd⟩ := hv.get
  obtain ⟨wd, wc, rfl⟩ := hw.shape
  refine Fn.of_vc cxOK Try.func49 rfl rfl rfl ?_
  repeat (first | refine VIf.tt ?_ | refine VIf.ff ?_)
  refine VIf.mk (fun h0 => ?_) (fun h0 => ?_)
  · have h0 : cs = [] := List.eq_nil_of_length_eq_zero (by have : (cs.length : Int) = 0 := by simpa using h0
                                                           omega)
    subst h0
    repeat (first | refine VIf.tt ?_ | refine VIf.ff ?_)
    exact VFact.mk rfl trivial
  have h0 : cs ≠ [] := fun e => by rw [e] at h0; simp at h0
  rw [show kindB cs q = if leftB cs q = true then 2 else 0 from if_neg h0, left_all]
  repeat (first | refine VIf.tt ?_ | refine VIf.ff ?_)
  refine VCode.loop cxOK (Nat × Mem) (fun s => ⟨[(0, .v (.slice ad cs.length c)), (1, .v (.slice wd q.length wc)), (5, .v (.int .i64 s.1))], [], 0, s.2, 24, ⟨fun _ => none, none, fun _ => none⟩⟩)
    (fun s => M.le s.2 ∧ s.1 ≤ cs.length ∧ ∀ j, j < s.1 → ((gc cs j).st.all fun p => withinB p q) = true) (fun s => cs.length - s.1) (0, M) ⟨Mem.le_refl _, Nat.zero_le _, fun j hj => by simp at hj⟩ (Wk.mk' id (by repeat' constructor) (by repeat' constructor) (injOK_id _) rfl rfl rfl) ?_
  rintro ⟨i, M1⟩ ⟨hM1, hi, hz⟩ m
  have hM1 : M.le M1 := hM1
  have hi : i ≤ cs.length := hi
  have hz : ∀ j, j < i → ((gc cs j).st.all fun p => withinB p q) = true := hz
  repeat (first | refine VIf.tt ?_ | refine VIf.ff ?_)
  refine VIf.mk (fun hlt => ?_) (fun hge => ?_)
  · have hlt : i < cs.length := lt_of_dec hlt
    obtain ⟨ad', a, b, s, rfl, ha, hb, hs, hc1⟩ := hrd M1 hM1 i hlt
    obtain ⟨x1, x2, rfl, _⟩ := ha.get
    obtain ⟨y1, y2, rfl, _⟩ := hb.get
    obtain ⟨z1, z2, rfl⟩ := hs.shape
    repeat (first | refine VIf.tt ?_ | refine VIf.ff ?_)
    refine VIdx.mk ad' i rfl rfl hlt ?_
    repeat (first | refine VIf.tt ?_ | refine VIf.ff ?_)
    refine VReads.mk [.slice x1 (gc cs i).sn.length x2, .slice y1 (gc cs i).cl.length y2, .slice z1 (gc cs i).st.length z2] rfl hc1 ?_
    repeat (first | refine VIf.tt ?_ | refine VIf.ff ?_)
    refine VFn.mk _ (InsideR_fn _ _ _ _ _ q M1 hs ⟨_, _, _, rfl⟩ ⟨_, _, _, rfl⟩ (hw.le hM1) (cases_valid hcs hlt) hq) ?_
    rintro rs M2 hM2 rfl
    repeat (first | refine VIf.tt ?_ | refine VIf.ff ?_)
    refine VIf.mk (fun hc => ?_) (fun hc => ?_)
    · repeat (first | refine VIf.tt ?_ | refine VIf.ff ?_)
      refine VFact.mk ?_ trivial
      rw [all_getD' (⟨[], [], []⟩ : CaseS) (fun c : CaseS => c.st.all fun p => withinB p q) _ hlt (bn1 hc)]; rfl
    · repeat (first | refine VIf.tt ?_ | refine VIf.ff ?_)
      refine VArith.ok (by first | omega | (simp only; omega)) (by first | omega | (simp only; omega)) ?_
      exact ⟨(i + 1, M2), ⟨hM1.trans hM2, hlt, stepI hz (bn2 hc)⟩, (by first | omega | (simp only; omega)), (Wk.mk' id (by repeat' constructor) (by repeat' constructor) (injOK_id _) rfl rfl rfl)⟩
  · have : i = cs.length := by have := ge_of_dec hge; omega
    subst this
    repeat (first | refine VIf.tt ?_ | refine VIf.ff ?_)
    refine VFact.mk ?_ trivial
    rw [all_getD (⟨[], [], []⟩ : CaseS) (fun c : CaseS => c.st.all fun p => withinB p q) _ hz]; rfl
def raiseV (r : Int × Int) : List Value := [.int .i64 r.1, .int .i64 r.2]
theorem Raise_fn (v w : Value) (cs : List CaseS) (q : List Pt) (M : Mem) (hv : CasV M v cs) (hw : Pts M w q) (hq64 : i64P q) : V.Fn Try.prog 19 [v, w] M fun rs _ => rs = raiseV (raiseB cs q) := by
  obtain ⟨ad, c, rfl, hm, _⟩ := hv.get
  obtain ⟨wd, wc, rfl⟩ := hw.shape
  refine Fn.of_vc cxOK Try.func19 rfl rfl rfl ?_
  repeat (first | refine VIf.tt ?_ | refine VIf.ff ?_)
  refine VFn.mk _ (casesC_fn _ cs M hv) ?_
  rintro rs M1 hM1 rfl
  repeat (first | refine VIf.tt ?_ | refine VIf.ff ?_)
  refine VIf.mk (fun h1 => ?_) (fun h1 => ?_)
  · repeat (first | refine VIf.tt ?_ | refine VIf.ff ?_)
    refine VFact.mk ?_ trivial
    rw [raiseB, bn1 h1]; rfl
  repeat (first | refine VIf.tt ?_ | refine VIf.ff ?_)
  refine VFn.mk _ (Valid_fn _ q M1 (hw.le hM1) hq64) ?_
  rintro rs M2 hM2 rfl
  repeat (first | refine VIf.tt ?_ | refine VIf.ff ?_)
  refine VIf.mk (fun h2 => ?_) (fun h2 => ?_)
  · repeat (first | refine VIf.tt ?_ | refine VIf.ff ?_)
    refine VFact.mk ?_ trivial
    rw [raiseB, bn1 h2, Bool.and_false]; rfl
  repeat (first | refine VIf.tt ?_ | refine VIf.ff ?_)
  refine VFn.mk _ (kind_fn _ _ cs q M2 (hv.le (hM1.trans hM2)) (hw.le (hM1.trans hM2)) (bn2 h1) (bn2 h2)) ?_
  rintro rs M3 hM3 rfl
  repeat (first | refine VIf.tt ?_ | refine VIf.ff ?_)
  refine VFact.mk ?_ trivial
  rw [raiseB, bn2 h1, bn2 h2]; rfl
theorem RaiseR_fn (v w : Value) (cs : List CaseS) (q : List Pt) (M : Mem) (hv : CasV M v cs) (hw : Pts M w q) (hq64 : i64P q) : V.Fn Try.prog 20 [v, w] M fun rs _ => rs = raiseV (raiseB cs q) := by
  obtain ⟨ad, c, rfl, hm, _⟩ := hv.get
  obtain ⟨wd, wc, rfl⟩ := hw.shape
  refine Fn.of_vc cxOK Try.func20 rfl rfl rfl ?_
  repeat (first | refine VIf.tt ?_ | refine VIf.ff ?_)
  refine VFn.p (casesR_fn _ cs M hv) ?_
  repeat (first | refine VIf.tt ?_ | refine VIf.ff ?_)
  refine VFn.p (ValidR_fn _ q M hw hq64) ?_
  rw [validR_eq]
  repeat (first | refine VIf.tt ?_ | refine VIf.ff ?_)
  refine VIf.mk (fun h1 => ?_) (fun h1 => ?_)
  · repeat (first | refine VIf.tt ?_ | refine VIf.ff ?_)
    refine VFact.mk ?_ trivial
    rw [raiseB, bn1 h1]; rfl
  repeat (first | refine VIf.tt ?_ | refine VIf.ff ?_)
  refine VIf.mk (fun h2 => ?_) (fun h2 => ?_)
  · repeat (first | refine VIf.tt ?_ | refine VIf.ff ?_)
    refine VFact.mk ?_ trivial
    rw [raiseB, bn1 h2, Bool.and_false]; rfl
  repeat (first | refine VIf.tt ?_ | refine VIf.ff ?_)
  refine VFn.mk _ (kindR_fn _ _ cs q M hv hw (bn2 h1) (bn2 h2)) ?_
  rintro rs M3 hM3 rfl
  repeat (first | refine VIf.tt ?_ | refine VIf.ff ?_)
  refine VFact.mk ?_ trivial
  rw [raiseB, bn2 h1, bn2 h2]; rfl
end Go.Proofs.Ytaobaeiohjgdcaa

/- Contracts: the first alarm of beliefs; what is few. -/
namespace Go.Proofs.Ytaobaeiohjgdcaa
open Go Go.V Go.RowKit
theorem BeliefsR_fn (v : Value) (bs : List BelS) (M : Mem) (hv : BelsV M v bs) : FnP Try.prog 50 [v] M [.bool (belB bs)] := by
  obtain ⟨ad, c, rfl, hm, hrd⟩ := hv.get
  refine Fn.of_vc cxOK Try.func50 rfl rfl rfl ?_
  repeat (first | refine VIf.tt ?_ | refine VIf.ff ?_)
  refine VCode.loop cxOK Nat (fun i => ⟨[(0, .v (.slice ad bs.length c)), (3, .v (.int .i64 (lastT bs i))), (4, .v (.int .i64 i))], [], 0, M, 42, ⟨fun _ => none, none, fun _ => none⟩⟩)
    (fun i => i ≤ bs.length ∧ ∀ j, j < i → belV bs j = true) (fun i => bs.length - i) 0 ⟨Nat.zero_le _, fun j hj => by omega⟩ (Wk.mk' id (by repeat' constructor) (by repeat' constructor) (injOK_id _) rfl rfl rfl) ?_
  rintro i ⟨hi, hz⟩ m
  repeat (first | refine VIf.tt ?_ | refine VIf.ff ?_)
  refine VIf.mk (fun hlt => ?_) (fun hge => ?_)
  · have hlt : i < bs.length := lt_of_dec hlt
    obtain ⟨ad', w, rfl, _, hw, hc1⟩ := hrd M (Mem.le_refl _) i hlt
    have bad : belV bs i = false → belB bs = false := fun h => all_false hlt h
    repeat (first | refine VIf.tt ?_ | refine VIf.ff ?_)
    refine VIdx.mk ad' i rfl rfl hlt ?_
    repeat (first | refine VIf.tt ?_ | refine VIf.ff ?_)
    refine VRead.mk w (hc1 1 _ rfl) ?_
    repeat (first | refine VIf.tt ?_ | refine VIf.ff ?_)
    refine VFn.p (casesR_fn w _ M hw) ?_
    repeat (first | refine VIf.tt ?_ | refine VIf.ff ?_)
    refine VIdx.mk ad' i rfl rfl hlt ?_
    repeat (first | refine VIf.tt ?_ | refine VIf.ff ?_)
    refine VRead.mk _ (hc1 0 _ rfl) ?_
    repeat (first | refine VIf.tt ?_ | refine VIf.ff ?_)
    refine VIf.mk (fun h1 => ?_) (fun h1 => ?_)
    · repeat (first | refine VIf.tt ?_ | refine VIf.ff ?_)
      refine VFact.mk ⟨?_, rfl⟩ trivial
      have h1 := of_decide_eq_true h1
      rw [bad (by simp only [belV, Bool.and_eq_false_iff, decide_eq_false_iff_not]; omega)]
    repeat (first | refine VIf.tt ?_ | refine VIf.ff ?_)
    refine VIdx.mk ad' i rfl rfl hlt ?_
    repeat (first | refine VIf.tt ?_ | refine VIf.ff ?_)
    refine VRead.mk _ (hc1 0 _ rfl) ?_
    repeat (first | refine VIf.tt ?_ | refine VIf.ff ?_)
    refine VIf.mk (fun h2 => ?_) (fun h2 => ?_)
    · repeat (first | refine VIf.tt ?_ | refine VIf.ff ?_)
      refine VFact.mk ⟨?_, rfl⟩ trivial
      have h2 := of_decide_eq_true h2
      rw [bad (by simp only [belV, Bool.and_eq_false_iff, decide_eq_false_iff_not]; omega)]
    repeat (first | refine VIf.tt ?_ | refine VIf.ff ?_)
    refine VIf.mk (fun h3 => ?_) (fun h3 => ?_)
    · repeat (first | refine VIf.tt ?_ | refine VIf.ff ?_)
      refine VFact.mk ⟨?_, rfl⟩ trivial
      rw [bad (by simp only [belV, bn1 h3, Bool.and_false])]
    have h1 := of_decide_eq_false h1
    have h2 := of_decide_eq_false h2
    repeat (first | refine VIf.tt ?_ | refine VIf.ff ?_)
    refine VIdx.mk ad' i rfl rfl hlt ?_
    repeat (first | refine VIf.tt ?_ | refine VIf.ff ?_)
    refine VRead.mk _ (hc1 0 _ rfl) ?_
    repeat (first | refine VIf.tt ?_ | refine VIf.ff ?_)
    refine VArith.ok (by first | omega | (simp only; omega)) (by first | omega | (simp only; omega)) ?_
    exact ⟨i + 1, ⟨hlt, stepI hz (by simp only [belV, bn2 h3, Bool.and_true, decide_eq_true_eq]; omega)⟩, (by first | omega | (simp only; omega)), (Wk.mk' id (by repeat' constructor) (by repeat' constructor) (injOK_id _) rfl rfl rfl)⟩
  · have : i = bs.length := by have := ge_of_dec hge; omega
    subst this
    repeat (first | refine VIf.tt ?_ | refine VIf.ff ?_)
    refine VFact.mk ⟨?_, rfl⟩ trivial
    rw [belB, all_true hz]
def firstV (r : Int × Int × Int) : List Value := [.int .i64 r.1, .int .i64 r.2.1, .int .i64 r.2.2]
theorem first_lim {bs : List BelS} {q : List Pt} (h : 2001 < bs.length) : firstB bs q = (0, 0, 2) := if_pos h
theorem first_arg {bs : List BelS} {q : List Pt} (h : ¬ 2001 < bs.length) (hb : (belB bs && validB q) = false) : firstB bs q = (0, 0, 1) := by rw [firstB, if_neg h, hb]; rfl
theorem first_ok {bs : List BelS} {q : List Pt} (h : ¬ 2001 < bs.length) (hb : belB bs = true) (hq : validB q = true) : firstB bs q = ((fstB q bs).1, (fstB q bs).2, 0) := by rw [firstB, if_neg h, hb, hq]; rfl
theorem bel_cases {bs : List BelS} (h : belB bs = true) {i : Nat} (hi : i < bs.length) : casesB (gb bs i).cs = true := by
  have := all_iff.1 h i hi
  simp only [belV, Bool.and_eq_true] at this
  exact this.2
theorem FirstR_fn (v w : Value) (bs : List BelS) (q : List Pt) (M : Mem) (hv : BelsV M v bs) (hw : Pts M w q) (hq64 : i64P q) : V.Fn Try.prog 22 [v, w] M fun rs _ => rs = firstV (firstB bs q) := by
  obtain ⟨ad, c, rfl, hm, hrd⟩ := hv.get
  obtain ⟨wd, wc, rfl⟩ := hw.shape
  refine Fn.of_vc cxOK Try.func22 rfl rfl rfl ?_
  repeat (first | refine VIf.tt ?_ | refine VIf.ff ?_)
  refine VIf.mk (fun h0 => ?_) (fun h0 => ?_)
  · repeat (first | refine VIf.tt ?_ | refine VIf.ff ?_)
    refine VFact.mk ?_ trivial
    rw [first_lim (by have := of_decide_eq_true h0; omega)]; rfl
  have h0 : ¬ 2001 < bs.length := by have := of_decide_eq_false h0; omega
  repeat (first | refine VIf.tt ?_ | refine VIf.ff ?_)
  refine VFn.p (BeliefsR_fn _ bs M hv) ?_
  repeat (first | refine VIf.tt ?_ | refine VIf.ff ?_)
  refine VFn.p (ValidR_fn _ q M hw hq64) ?_
  rw [validR_eq]
  repeat (first | refine VIf.tt ?_ | refine VIf.ff ?_)
  refine VIf.mk (fun h1 => ?_) (fun h1 => ?_)
  · repeat (first | refine VIf.tt ?_ | refine VIf.ff ?_)
    refine VFact.mk ?_ trivial
    rw [first_arg h0 (by rw [bn1 h1]; rfl)]; rfl
  repeat (first | refine VIf.tt ?_ | refine VIf.ff ?_)
  refine VIf.mk (fun h2 => ?_) (fun h2 => ?_)
  · repeat (first | refine VIf.tt ?_ | refine VIf.ff ?_)
    refine VFact.mk ?_ trivial
    rw [first_arg h0 (by rw [bn1 h2, Bool.and_false])]; rfl
  have h1 := bn2 h1
  have h2 := bn2 h2
  rw [first_ok h0 h1 h2]
  repeat (first | refine VIf.tt ?_ | refine VIf.ff ?_)
  refine VCode.loop cxOK (Nat × Mem) (fun s => ⟨[(0, .v (.slice ad bs.length c)), (1, .v (.slice wd q.length wc)), (9, .v (.int .i64 s.1))], [], 0, s.2, 43, ⟨fun _ => none, none, fun _ => none⟩⟩)
    (fun s => M.le s.2 ∧ s.1 ≤ bs.length ∧ ∀ j, j < s.1 → kindB (gb bs j).cs q = 0) (fun s => bs.length - s.1) (0, M) ⟨Mem.le_refl _, Nat.zero_le _, fun j hj => by simp at hj⟩ (Wk.mk' id (by repeat' constructor) (by repeat' constructor) (injOK_id _) rfl rfl rfl) ?_
  rintro ⟨i, M1⟩ ⟨hM1, hi, hz⟩ m
  have hM1 : M.le M1 := hM1
  have hi : i ≤ bs.length := hi
  have hz : ∀ j, j < i → kindB (gb bs j).cs q = 0 := hz
  repeat (first | refine VIf.tt ?_ | refine VIf.ff ?_)
  refine VIf.mk (fun hlt => ?_) (fun hge => ?_)
  · have hlt : i < bs.length := lt_of_dec hlt
    obtain ⟨ad', u, rfl, _, hu, hc1⟩ := hrd M1 hM1 i hlt
    repeat (first | refine VIf.tt ?_ | refine VIf.ff ?_)
    refine VIdx.mk ad' i rfl rfl hlt ?_
    repeat (first | refine VIf.tt ?_ | refine VIf.ff ?_)
    refine VRead.mk u (hc1 1 _ rfl) ?_
    repeat (first | refine VIf.tt ?_ | refine VIf.ff ?_)
    refine VFn.mk _ (kindR_fn u _ _ q M1 hu (hw.le hM1) (bel_cases h1 hlt) h2) ?_
    rintro rs M2 hM2 rfl
    repeat (first | refine VIf.tt ?_ | refine VIf.ff ?_)
    refine VIf.mk (fun hc => ?_) (fun hc => ?_)
    · repeat (first | refine VIf.tt ?_ | refine VIf.ff ?_)
      refine VFact.mk ?_ trivial
      rw [fst_here hlt hz (bne_iff_ne.1 hc)]; rfl
    · repeat (first | refine VIf.tt ?_ | refine VIf.ff ?_)
      refine VArith.ok (by first | omega | (simp only; omega)) (by first | omega | (simp only; omega)) ?_
      refine ⟨(i + 1, M2), ⟨hM1.trans hM2, hlt, fun j hj => ?_⟩, (by first | omega | (simp only; omega)), (Wk.mk' id (by repeat' constructor) (by repeat' constructor) (injOK_id _) rfl rfl rfl)⟩
      by_cases e : j = i
      · subst e; exact bne_eq_false_iff_eq.1 hc
      · exact hz j (by simp only at hj ⊢; omega)
  · have : i = bs.length := by have := ge_of_dec hge; omega
    subst this
    repeat (first | refine VIf.tt ?_ | refine VIf.ff ?_)
    refine VFact.mk ?_ trivial
    rw [fst_none hz]; rfl
theorem First_fn (v w : Value) (bs : List BelS) (q : List Pt) (M : Mem) (hv : BelsV M v bs) (hw : Pts M w q) (hq64 : i64P q) : V.Fn Try.prog 21 [v, w] M fun rs _ => rs = firstV (firstB bs q) := by
  obtain ⟨ad, c, rfl, hm, hrd⟩ := hv.get
  obtain ⟨wd, wc, rfl⟩ := hw.shape
  refine Fn.of_vc cxOK Try.func21 rfl rfl rfl ?_
  repeat (first | refine VIf.tt ?_ | refine VIf.ff ?_)
  refine VIf.mk (fun h0 => ?_) (fun h0 => ?_)
  · repeat (first | refine VIf.tt ?_ | refine VIf.ff ?_)
    refine VFact.mk ?_ trivial
    rw [first_lim (by have := of_decide_eq_true h0; omega)]; rfl
  have h0 : ¬ 2001 < bs.length := by have := of_decide_eq_false h0; omega
  repeat (first | refine VIf.tt ?_ | refine VIf.ff ?_)
  refine VFn.mk _ (Valid_fn _ q M hw hq64) ?_
  rintro rs M1 hM1 rfl
  repeat (first | refine VIf.tt ?_ | refine VIf.ff ?_)
  refine VIf.mk (fun h2 => ?_) (fun h2 => ?_)
  · repeat (first | refine VIf.tt ?_ | refine VIf.ff ?_)
    refine VFact.mk ?_ trivial
    rw [first_arg h0 (by rw [bn1 h2, Bool.and_false])]; rfl
  have h2 := bn2 h2
  repeat (first | refine VIf.tt ?_ | refine VIf.ff ?_)
  refine VCode.loop cxOK (Nat × Mem) (fun s => ⟨[(0, .v (.slice ad bs.length c)), (1, .v (.slice wd q.length wc)), (7, .v (.int .i64 (lastT bs s.1))), (19, .v (.slice ad bs.length c)), (20, .v (.int .i64 bs.length)), (21, .v (.int .i64 s.1))], [], 0, s.2, 61, ⟨fun _ => none, none, fun _ => none⟩⟩)
    (fun s => M.le s.2 ∧ s.1 ≤ bs.length ∧ ∀ j, j < s.1 → belV bs j = true) (fun s => bs.length - s.1) (0, M1) ⟨hM1, Nat.zero_le _, fun j hj => by simp at hj⟩ (Wk.mk' id (by repeat' constructor) (by repeat' constructor) (injOK_id _) rfl rfl rfl) ?_
  rintro ⟨i, M2⟩ ⟨hM2, hi, hz⟩ m
  have hM2 : M.le M2 := hM2
  have hi : i ≤ bs.length := hi
  have hz : ∀ j, j < i → belV bs j = true := hz
  repeat (first | refine VIf.tt ?_ | refine VIf.ff ?_)
  refine VIf.mk (fun hlt => ?_) (fun hge => ?_)
  · have hlt : i < bs.length := lt_of_dec hlt
    obtain ⟨ad', u, rfl, _, hu, hc1⟩ := hrd M2 hM2 i hlt
    have bad : belV bs i = false → firstB bs q = (0, 0, 1) := fun h => first_arg h0 (by rw [show belB bs = false from all_false hlt h]; rfl)
    obtain ⟨ud, uc, rfl, _⟩ := hu.get
    repeat (first | refine VIf.tt ?_ | refine VIf.ff ?_)
    refine VIdx.mk ad' i rfl rfl hlt ?_
    repeat (first | refine VIf.tt ?_ | refine VIf.ff ?_)
    refine VReads.mk [.int .i64 (gb bs i).t, .slice ud (gb bs i).cs.length uc] rfl hc1 ?_
    repeat (first | refine VIf.tt ?_ | refine VIf.ff ?_)
    refine VIf.mk (fun h1 => ?_) (fun h1 => ?_)
    · repeat (first | refine VIf.tt ?_ | refine VIf.ff ?_)
      refine VFact.mk ?_ trivial
      have h1 : (gb bs i).t < lastT bs i := of_decide_eq_true h1
      rw [bad (by simp only [belV, Bool.and_eq_false_iff, decide_eq_false_iff_not]; omega)]; rfl
    repeat (first | refine VIf.tt ?_ | refine VIf.ff ?_)
    refine VIf.mk (fun h3 => ?_) (fun h3 => ?_)
    · repeat (first | refine VIf.tt ?_ | refine VIf.ff ?_)
      refine VFact.mk ?_ trivial
      have h3 := of_decide_eq_true h3
      rw [bad (by simp only [belV, Bool.and_eq_false_iff, decide_eq_false_iff_not]; omega)]; rfl
    have h1 : ¬ (gb bs i).t < lastT bs i := of_decide_eq_false h1
    have h3 := of_decide_eq_false h3
    repeat (first | refine VIf.tt ?_ | refine VIf.ff ?_)
    refine VFn.mk _ (casesC_fn _ _ M2 hu) ?_
    rintro rs M3 hM3 rfl
    repeat (first | refine VIf.tt ?_ | refine VIf.ff ?_)
    refine VIf.mk (fun h4 => ?_) (fun h4 => ?_)
    · repeat (first | refine VIf.tt ?_ | refine VIf.ff ?_)
      refine VFact.mk ?_ trivial
      rw [bad (by simp only [belV, bn1 h4, Bool.and_false])]; rfl
    · repeat (first | refine VIf.tt ?_ | refine VIf.ff ?_)
      refine VArith.ok (by first | omega | (simp only; omega)) (by first | omega | (simp only; omega)) ?_
      exact ⟨(i + 1, M3), ⟨hM2.trans hM3, hlt, stepI hz (by simp only [belV, bn2 h4, Bool.and_true, decide_eq_true_eq]; omega)⟩, (by first | omega | (simp only; omega)), (Wk.mk' id (by repeat' constructor) (by repeat' constructor) (injOK_id _) rfl rfl rfl)⟩
  have hin : i = bs.length := by have := ge_of_dec hge; omega
  subst hin
  have hb : belB bs = true := all_true hz
  rw [first_ok h0 hb h2]
  repeat (first | refine VIf.tt ?_ | refine VIf.ff ?_)
  refine VCode.loop cxOK (Nat × Mem) (fun s => ⟨[(0, .v (.slice ad bs.length c)), (1, .v (.slice wd q.length wc)), (43, .v (.slice ad bs.length c)), (44, .v (.int .i64 bs.length)), (45, .v (.int .i64 s.1))], [], 0, s.2, 61, ⟨fun _ => none, none, fun _ => none⟩⟩)
    (fun s => M.le s.2 ∧ s.1 ≤ bs.length ∧ ∀ j, j < s.1 → kindB (gb bs j).cs q = 0) (fun s => bs.length - s.1) (0, M2) ⟨hM2, Nat.zero_le _, fun j hj => by simp at hj⟩ (Wk.mk' id (by repeat' constructor) (by repeat' constructor) (injOK_id _) rfl rfl rfl) ?_
  rintro ⟨i, M3⟩ ⟨hM3, hi, hz⟩ m
  have hM3 : M.le M3 := hM3
  have hi : i ≤ bs.length := hi
  have hz : ∀ j, j < i → kindB (gb bs j).cs q = 0 := hz
  repeat (first | refine VIf.tt ?_ | refine VIf.ff ?_)
  refine VIf.mk (fun hlt => ?_) (fun hge => ?_)
  · have hlt : i < bs.length := lt_of_dec hlt
    obtain ⟨ad', u, rfl, _, hu, hc1⟩ := hrd M3 hM3 i hlt
    obtain ⟨ud, uc, rfl, _⟩ := hu.get
    repeat (first | refine VIf.tt ?_ | refine VIf.ff ?_)
    refine VIdx.mk ad' i rfl rfl hlt ?_
    repeat (first | refine VIf.tt ?_ | refine VIf.ff ?_)
    refine VReads.mk [.int .i64 (gb bs i).t, .slice ud (gb bs i).cs.length uc] rfl hc1 ?_
    repeat (first | refine VIf.tt ?_ | refine VIf.ff ?_)
    refine VFn.mk _ (kind_fn _ _ _ q M3 hu (hw.le hM3) (bel_cases hb hlt) h2) ?_
    rintro rs M4 hM4 rfl
    repeat (first | refine VIf.tt ?_ | refine VIf.ff ?_)
    refine VIf.mk (fun hc => ?_) (fun hc => ?_)
    · repeat (first | refine VIf.tt ?_ | refine VIf.ff ?_)
      refine VFact.mk ?_ trivial
      rw [fst_here hlt hz (bne_iff_ne.1 hc)]; rfl
    · repeat (first | refine VIf.tt ?_ | refine VIf.ff ?_)
      refine VArith.ok (by first | omega | (simp only; omega)) (by first | omega | (simp only; omega)) ?_
      refine ⟨(i + 1, M4), ⟨hM3.trans hM4, hlt, fun j hj => ?_⟩, (by first | omega | (simp only; omega)), (Wk.mk' id (by repeat' constructor) (by repeat' constructor) (injOK_id _) rfl rfl rfl)⟩
      by_cases e : j = i
      · subst e; exact bne_eq_false_iff_eq.1 hc
      · exact hz j (by simp only at hj ⊢; omega)
  · have : i = bs.length := by have := ge_of_dec hge; omega
    subst this
    repeat (first | refine VIf.tt ?_ | refine VIf.ff ?_)
    refine VFact.mk ?_ trivial
    rw [fst_none hz]; rfl
end Go.Proofs.Ytaobaeiohjgdcaa

/- Contracts: what is few; the head of the alarm's laws. -/
namespace Go.Proofs.Ytaobaeiohjgdcaa
open Go Go.V Go.RowKit
theorem Few03_fn (v : Value) (ps : List Pt) (M : Mem) (hv : Pts M v ps) : FnP Try.prog 18 [v] M [.bool (decide (ps.length ≤ 80))] := by
  obtain ⟨ad, c, rfl⟩ := hv.shape
  refine Fn.of_vc cxOK Try.func18 rfl rfl rfl ?_
  repeat (first | refine VIf.tt ?_ | refine VIf.ff ?_)
  refine VFact.mk ⟨bool1 ?_, rfl⟩ trivial
  simp only [decide_eq_true_eq]; omega
theorem Few07_fn (v : Value) (r : List (List Pt)) (M : Mem) (hv : RegV M v r) : V.Fn Try.prog 46 [v] M fun rs _ => ∃ b, rs = [.bool b] := by
  obtain ⟨ad, c, rfl, hm, hrd⟩ := hv.get
  refine Fn.of_vc cxOK Try.func46 rfl rfl rfl ?_
  repeat (first | refine VIf.tt ?_ | refine VIf.ff ?_)
  refine VCode.loop cxOK (Nat × Int) (fun s => ⟨[(0, .v (.slice ad r.length c)), (3, .v (.int .i64 s.2)), (4, .v (.int .i64 s.1))], [], 0, M, 29, ⟨fun _ => none, none, fun _ => none⟩⟩)
    (fun s => s.1 ≤ r.length) (fun s => r.length - s.1) (0, 0) (Nat.zero_le _) (Wk.mk' id (by repeat' constructor) (by repeat' constructor) (injOK_id _) rfl rfl rfl) ?_
  rintro ⟨i, n⟩ hi m
  have hi : i ≤ r.length := hi
  have done : ∀ {b : Bool}, ∃ b', [Value.bool b] = [.bool b'] := fun {b} => ⟨b, rfl⟩
  repeat (first | refine VIf.tt ?_ | refine VIf.ff ?_)
  refine VIf.mk (fun hlt => ?_) (fun hge => ?_)
  · have hlt : i < r.length := lt_of_dec hlt
    repeat (first | refine VIf.tt ?_ | refine VIf.ff ?_)
    refine VIf.mk (fun h9 => ?_) (fun h9 => ?_)
    · obtain ⟨ad', w, rfl, hp, _, hc1⟩ := hrd M (Mem.le_refl _) i hlt
      obtain ⟨wd, wc, rfl⟩ := hp.shape
      repeat (first | refine VIf.tt ?_ | refine VIf.ff ?_)
      refine VIdx.mk ad' i rfl rfl hlt ?_
      repeat (first | refine VIf.tt ?_ | refine VIf.ff ?_)
      refine VRead.mk _ hc1 ?_
      repeat (first | refine VIf.tt ?_ | refine VIf.ff ?_)
      refine VArith.wr ?_
      repeat (first | refine VIf.tt ?_ | refine VIf.ff ?_)
      refine VArith.ok (by first | omega | (simp only; omega)) (by first | omega | (simp only; omega)) ?_
      exact ⟨(i + 1, _), hlt, (by first | omega | (simp only; omega)), (Wk.mk' id (by repeat' constructor) (by repeat' constructor) (injOK_id _) rfl rfl rfl)⟩
    · repeat (first | refine VIf.tt ?_ | refine VIf.ff ?_)
      refine VIf.mk (fun hb => ?_) (fun hb => ?_)
      · repeat (first | refine VIf.tt ?_ | refine VIf.ff ?_)
        exact VFact.mk done trivial
      · repeat (first | refine VIf.tt ?_ | refine VIf.ff ?_)
        exact VFact.mk done trivial
  · repeat (first | refine VIf.tt ?_ | refine VIf.ff ?_)
    refine VIf.mk (fun hb => ?_) (fun hb => ?_)
    · repeat (first | refine VIf.tt ?_ | refine VIf.ff ?_)
      exact VFact.mk done trivial
    · repeat (first | refine VIf.tt ?_ | refine VIf.ff ?_)
      exact VFact.mk done trivial
theorem Few22_fn (v : Value) (cs : List CaseS) (M : Mem) (hv : CasV M v cs) : V.Fn Try.prog 16 [v] M fun rs _ => ∃ b, rs = [.bool b] ∧ (b = true → cs.length ≤ 8) := by
  obtain ⟨ad, c, rfl, hm, hrd⟩ := hv.get
  refine Fn.of_vc cxOK Try.func16 rfl rfl rfl ?_
  repeat (first | refine VIf.tt ?_ | refine VIf.ff ?_)
  refine VCode.loop cxOK (Nat × Mem) (fun s => ⟨[(0, .v (.slice ad cs.length c)), (3, .v (.int .i64 s.1))], [], 0, s.2, 53, ⟨fun _ => none, none, fun _ => none⟩⟩)
    (fun s => M.le s.2 ∧ s.1 ≤ cs.length) (fun s => cs.length - s.1) (0, M) ⟨Mem.le_refl _, Nat.zero_le _⟩ (Wk.mk' id (by repeat' constructor) (by repeat' constructor) (injOK_id _) rfl rfl rfl) ?_
  rintro ⟨i, M1⟩ ⟨hM1, hi⟩ m
  have hi : i ≤ cs.length := hi
  have hM1 : M.le M1 := hM1
  have no : ∃ b', [Value.bool false] = [.bool b'] ∧ (b' = true → cs.length ≤ 8) := ⟨false, rfl, by simp⟩
  have done : ∃ b', [Value.bool (decide ((cs.length : Int) ≤ 8))] = [.bool b'] ∧ (b' = true → cs.length ≤ 8) := ⟨_, rfl, fun h => by have := of_decide_eq_true h; omega⟩
  repeat (first | refine VIf.tt ?_ | refine VIf.ff ?_)
  refine VIf.mk (fun hlt => ?_) (fun hge => ?_)
  · have hlt : i < cs.length := lt_of_dec hlt
    repeat (first | refine VIf.tt ?_ | refine VIf.ff ?_)
    refine VIf.mk (fun h9 => ?_) (fun h9 => ?_)
    · obtain ⟨ad', a, b, s, rfl, ha, hb, hs, hc1⟩ := hrd M1 hM1 i hlt
      obtain ⟨x1, x2, rfl, _⟩ := ha.get
      obtain ⟨y1, y2, rfl, _⟩ := hb.get
      obtain ⟨z1, z2, rfl⟩ := hs.shape
      repeat (first | refine VIf.tt ?_ | refine VIf.ff ?_)
      refine VIdx.mk ad' i rfl rfl hlt ?_
      repeat (first | refine VIf.tt ?_ | refine VIf.ff ?_)
      refine VRead.mk _ (hc1 2 _ rfl) ?_
      repeat (first | refine VIf.tt ?_ | refine VIf.ff ?_)
      refine VFn.mk _ (Few07_fn _ _ M1 hs) ?_
      rintro rs M2 hM2 ⟨f, rfl⟩
      have hc2 : ∀ j y, _ → M2.cell _ = some y := fun j y h => Mem.cell_le hM2 (hc1 j y h)
      repeat (first | refine VIf.tt ?_ | refine VIf.ff ?_)
      refine VIf.mk (fun h1 => ?_) (fun h1 => ?_)
      · repeat (first | refine VIf.tt ?_ | refine VIf.ff ?_)
        exact VFact.mk no trivial
      repeat (first | refine VIf.tt ?_ | refine VIf.ff ?_)
      refine VIdx.mk ad' i rfl rfl hlt ?_
      repeat (first | refine VIf.tt ?_ | refine VIf.ff ?_)
      refine VRead.mk _ (hc2 2 _ rfl) ?_
      repeat (first | refine VIf.tt ?_ | refine VIf.ff ?_)
      refine VIf.mk (fun h2 => ?_) (fun h2 => ?_)
      · repeat (first | refine VIf.tt ?_ | refine VIf.ff ?_)
        exact VFact.mk no trivial
      repeat (first | refine VIf.tt ?_ | refine VIf.ff ?_)
      refine VIdx.mk ad' i rfl rfl hlt ?_
      repeat (first | refine VIf.tt ?_ | refine VIf.ff ?_)
      refine VRead.mk _ (hc2 0 _ rfl) ?_
      repeat (first | refine VIf.tt ?_ | refine VIf.ff ?_)
      refine VIf.mk (fun h3 => ?_) (fun h3 => ?_)
      · repeat (first | refine VIf.tt ?_ | refine VIf.ff ?_)
        exact VFact.mk no trivial
      repeat (first | refine VIf.tt ?_ | refine VIf.ff ?_)
      refine VIdx.mk ad' i rfl rfl hlt ?_
      repeat (first | refine VIf.tt ?_ | refine VIf.ff ?_)
      refine VRead.mk _ (hc2 1 _ rfl) ?_
      repeat (first | refine VIf.tt ?_ | refine VIf.ff ?_)
      refine VIf.mk (fun h4 => ?_) (fun h4 => ?_)
      · repeat (first | refine VIf.tt ?_ | refine VIf.ff ?_)
        exact VFact.mk no trivial
      repeat (first | refine VIf.tt ?_ | refine VIf.ff ?_)
      refine VArith.ok (by first | omega | (simp only; omega)) (by first | omega | (simp only; omega)) ?_
      exact ⟨(i + 1, M2), ⟨hM1.trans hM2, hlt⟩, (by first | omega | (simp only; omega)), (Wk.mk' id (by repeat' constructor) (by repeat' constructor) (injOK_id _) rfl rfl rfl)⟩
    · repeat (first | refine VIf.tt ?_ | refine VIf.ff ?_)
      exact VFact.mk done trivial
  · repeat (first | refine VIf.tt ?_ | refine VIf.ff ?_)
    exact VFact.mk done trivial
theorem Few23_fn (v : Value) (bs : List BelS) (M : Mem) (hv : BelsV M v bs) : V.Fn Try.prog 17 [v] M fun rs _ => ∃ b, rs = [.bool b] := by
  obtain ⟨ad, c, rfl, hm, hrd⟩ := hv.get
  refine Fn.of_vc cxOK Try.func17 rfl rfl rfl ?_
  repeat (first | refine VIf.tt ?_ | refine VIf.ff ?_)
  refine VIf.mk (fun h0 => ?_) (fun h0 => ?_)
  · repeat (first | refine VIf.tt ?_ | refine VIf.ff ?_)
    refine VIf.mk (fun h1 => ?_) (fun h1 => ?_)
    · repeat (first | refine VIf.tt ?_ | refine VIf.ff ?_)
      exact VFact.mk (⟨_, rfl⟩ : ∃ b, _ = [Value.bool b]) trivial
    · repeat (first | refine VIf.tt ?_ | refine VIf.ff ?_)
      exact VFact.mk (⟨_, rfl⟩ : ∃ b, _ = [Value.bool b]) trivial
  repeat (first | refine VIf.tt ?_ | refine VIf.ff ?_)
  refine VCode.loop cxOK (Nat × Mem) (fun s => ⟨[(0, .v (.slice ad bs.length c)), (3, .v (.int .i64 s.1))], [], 0, s.2, 30, ⟨fun _ => none, none, fun _ => none⟩⟩)
    (fun s => M.le s.2 ∧ s.1 ≤ bs.length) (fun s => bs.length - s.1) (0, M) ⟨Mem.le_refl _, Nat.zero_le _⟩ (Wk.mk' id (by repeat' constructor) (by repeat' constructor) (injOK_id _) rfl rfl rfl) ?_
  rintro ⟨i, M1⟩ ⟨hM1, hi⟩ m
  have hi : i ≤ bs.length := hi
  have hM1 : M.le M1 := hM1
  repeat (first | refine VIf.tt ?_ | refine VIf.ff ?_)
  refine VIf.mk (fun hlt => ?_) (fun hge => ?_)
  · have hlt : i < bs.length := lt_of_dec hlt
    obtain ⟨ad', u, rfl, _, hu, hc1⟩ := hrd M1 hM1 i hlt
    repeat (first | refine VIf.tt ?_ | refine VIf.ff ?_)
    refine VIdx.mk ad' i rfl rfl hlt ?_
    repeat (first | refine VIf.tt ?_ | refine VIf.ff ?_)
    refine VRead.mk u (hc1 1 _ rfl) ?_
    repeat (first | refine VIf.tt ?_ | refine VIf.ff ?_)
    refine VFn.mk _ (Few22_fn u _ M1 hu) ?_
    rintro rs M2 hM2 ⟨f, rfl, _⟩
    repeat (first | refine VIf.tt ?_ | refine VIf.ff ?_)
    refine VIf.mk (fun h1 => ?_) (fun h1 => ?_)
    · repeat (first | refine VIf.tt ?_ | refine VIf.ff ?_)
      exact VFact.mk (⟨_, rfl⟩ : ∃ b, _ = [Value.bool b]) trivial
    · repeat (first | refine VIf.tt ?_ | refine VIf.ff ?_)
      refine VArith.ok (by first | omega | (simp only; omega)) (by first | omega | (simp only; omega)) ?_
      exact ⟨(i + 1, M2), ⟨hM1.trans hM2, hlt⟩, (by first | omega | (simp only; omega)), (Wk.mk' id (by repeat' constructor) (by repeat' constructor) (injOK_id _) rfl rfl rfl)⟩
  · repeat (first | refine VIf.tt ?_ | refine VIf.ff ?_)
    exact VFact.mk (⟨_, rfl⟩ : ∃ b, _ = [Value.bool b]) trivial
theorem at_fn (x y : Int) (M : Mem) : FnP Try.prog 45 [.int .i64 x, .int .i64 y] M [pt x y] := by
  refine Fn.of_vc cxOK Try.func45 rfl rfl rfl ?_
  repeat (first | refine VIf.tt ?_ | refine VIf.ff ?_)
  exact VFact.mk ⟨rfl, rfl⟩ trivial
/-- The elements, one by one. -/
def DL {α : Type} (D : Mem → α → List Value → Prop) (M : Mem) : List α → List (List Value) → Prop
  | [], [] => True
  | x :: l, r :: rows => D M x r ∧ DL D M l rows
  | _, _ => False
theorem DL.get {α : Type} {D : Mem → α → List Value → Prop} {M : Mem} : ∀ {l : List α} {rows : List (List Value)}, DL D M l rows → rows.length = l.length ∧ ∀ (i : Nat) (x : α) (r : List Value), l[i]? = some x → rows[i]? = some r → D M x r
  | [], [], _ => ⟨rfl, fun i x r h => by simp at h⟩
  | x :: l, r :: rows, h => by
    obtain ⟨h1, h2⟩ := DL.get h.2
    refine ⟨by simp [h1], fun i y s hy hs => ?_⟩
    match i, hy, hs with
    | 0, hy, hs => simp at hy hs; subst hy hs; exact h.1
    | i + 1, hy, hs => exact h2 i y s (by simpa using hy) (by simpa using hs)
  | [], _ :: _, h => h.elim
  | _ :: _, [], h => h.elim
theorem Arr.of {α : Type} {D : Mem → α → List Value → Prop} {M : Mem} {k : Nat} {v : Value} {l : List α} (rows : List (List Value)) (hk : ∀ r ∈ rows, r.length = k) (h : SlAt M k v l.length rows.flatten) (hd : DL D M l rows) : Arr D M k v l :=
  ⟨rows, hd.get.1, hk, h, hd.get.2⟩
theorem SlAt.nil (M : Mem) (k : Nat) : SlAt M k (.slice none 0 0) 0 [] := ⟨none, 0, rfl, Nat.le_refl _, Nat.zero_le _, by simp, by simp, fun h => absurd h (Nat.lt_irrefl _)⟩
theorem IntsV.nil (M : Mem) : IntsV M (.slice none 0 0) [] := Arr.of [] (by simp) (SlAt.nil M 1) trivial
theorem RegV.nil (M : Mem) : RegV M (.slice none 0 0) [] := Arr.of [] (by simp) (SlAt.nil M 1) trivial
theorem CasV.nil (M : Mem) : CasV M (.slice none 0 0) [] := Arr.of [] (by simp) (SlAt.nil M 3) trivial
theorem RegV.of1 {M : Mem} {s p : Value} {ps : List Pt} (h : SlAt M 1 s 1 [p]) (hp : Pts M p ps) (h64 : i64P ps) : RegV M s [ps] :=
  Arr.of [[p]] (by simp) h ⟨⟨p, rfl, hp, h64⟩, trivial⟩
theorem CasV.of1 {M : Mem} {c s : Value} {st : List (List Pt)} (h : SlAt M 3 c 1 [.slice none 0 0, .slice none 0 0, s]) (hs : RegV M s st) : CasV M c [⟨[], [], st⟩] :=
  Arr.of [[.slice none 0 0, .slice none 0 0, s]] (by simp) h ⟨⟨_, _, _, rfl, IntsV.nil M, IntsV.nil M, hs⟩, trivial⟩
instance (x : Int) : Decidable (i64r x) := by unfold i64r; infer_instance
theorem i64_of {ps : List Pt} (h : (ps.all fun p => decide (i64r p.1) && decide (i64r p.2)) = true) : i64P ps := fun i hi => by
  have := all_at (0, 0) h hi
  simp only [Bool.and_eq_true, decide_eq_true_eq] at this
  exact this
theorem SlAt.shape {M : Mem} {k n : Nat} {v : Value} {xs : List Value} (h : SlAt M k v n xs) : ∃ a c, v = .slice a n c := let ⟨a, c, e, _⟩ := h; ⟨a, c, e⟩
theorem Pts.nil (M : Mem) : Pts M (.slice none 0 0) [] := SlAt.nil M 2
def protH : List Pt := [(0, 0), (10, 0), (10, 10), (0, 10)]
def outH : List CaseS := [⟨[], [], [[(11, 5)]]⟩]
def inH : List CaseS := [⟨[], [], [[(10, 5)]]⟩]
set_option maxHeartbeats 4000000 in
theorem head_fn (M : Mem) : V.Fn Try.prog 15 [] M fun rs _ => rs = [.bool true] := by
  refine Fn.of_vc cxOK Try.func15 rfl rfl rfl ?_
  repeat (first | refine VIf.tt ?_ | refine VIf.ff ?_)
  refine VFn.p (at_fn _ _ _) ?_
  repeat (first | refine VIf.tt ?_ | refine VIf.ff ?_)
  refine VFn.p (at_fn _ _ _) ?_
  repeat (first | refine VIf.tt ?_ | refine VIf.ff ?_)
  refine VFn.p (at_fn _ _ _) ?_
  repeat (first | refine VIf.tt ?_ | refine VIf.ff ?_)
  refine VFn.p (at_fn _ _ _) ?_
  repeat (first | refine VIf.tt ?_ | refine VIf.ff ?_)
  refine VFn.p (at_fn _ _ _) ?_
  repeat (first | refine VIf.tt ?_ | refine VIf.ff ?_)
  refine VFz.mk fun p1 _ M1 hM1 hp1 => ?_
  obtain ⟨ap1, cp1, rfl⟩ := SlAt.shape hp1
  have hp1 : Pts M1 _ [(11, 5)] := hp1
  repeat (first | refine VIf.tt ?_ | refine VIf.ff ?_)
  refine VFz.mk fun s1 _ M2 hM2 hs1 => ?_
  obtain ⟨as1, cs1, rfl⟩ := SlAt.shape hs1
  have hs1 : RegV M2 _ [[(11, 5)]] := RegV.of1 hs1 (hp1.le hM2) (i64_of (by decide))
  repeat (first | refine VIf.tt ?_ | refine VIf.ff ?_)
  refine VFn.p (at_fn _ _ _) ?_
  repeat (first | refine VIf.tt ?_ | refine VIf.ff ?_)
  refine VFz.mk fun p2 _ M3 hM3 hp2 => ?_
  obtain ⟨ap2, cp2, rfl⟩ := SlAt.shape hp2
  have hp2 : Pts M3 _ [(10, 5)] := hp2
  repeat (first | refine VIf.tt ?_ | refine VIf.ff ?_)
  refine VFz.mk fun s2 _ M4 hM4 hs2 => ?_
  obtain ⟨as2, cs2, rfl⟩ := SlAt.shape hs2
  have hs2 : RegV M4 _ [[(10, 5)]] := RegV.of1 hs2 (hp2.le hM4) (i64_of (by decide))
  repeat (first | refine VIf.tt ?_ | refine VIf.ff ?_)
  refine VFz.mk fun q _ M5 hM5 hq => ?_
  have hq : Pts M5 q protH := hq
  have hq64 : i64P protH := i64_of (by decide)
  repeat (first | refine VIf.tt ?_ | refine VIf.ff ?_)
  refine VFn.mk _ (Raise_fn _ q [] _ M5 (CasV.nil M5) hq hq64) ?_
  rintro rs M6 hM6 rfl
  rw [show raiseB [] protH = (1, 0) by decide]
  repeat (first | refine VIf.tt ?_ | refine VIf.ff ?_)
  refine VFz.mk fun c1 _ M7 hM7 hc1 => ?_
  obtain ⟨ac1, cc1, rfl⟩ := SlAt.shape hc1
  have hc1 : CasV M7 _ outH := CasV.of1 hc1 (hs1.le ((((hM3.trans hM4).trans hM5).trans hM6).trans hM7))
  repeat (first | refine VIf.tt ?_ | refine VIf.ff ?_)
  refine VFn.mk _ (Raise_fn _ q outH _ M7 hc1 (hq.le (hM6.trans hM7)) hq64) ?_
  rintro rs M8 hM8 rfl
  rw [show raiseB outH protH = (2, 0) by decide]
  repeat (first | refine VIf.tt ?_ | refine VIf.ff ?_)
  refine VFz.mk fun c2 _ M9 hM9 hc2 => ?_
  obtain ⟨ac2, cc2, rfl⟩ := SlAt.shape hc2
  have hc2 : CasV M9 _ inH := CasV.of1 hc2 (hs2.le ((((hM5.trans hM6).trans hM7).trans hM8).trans hM9))
  repeat (first | refine VIf.tt ?_ | refine VIf.ff ?_)
  refine VFn.mk _ (Raise_fn _ q inH _ M9 hc2 (hq.le (((hM6.trans hM7).trans hM8).trans hM9)) hq64) ?_
  rintro rs M10 hM10 rfl
  rw [show raiseB inH protH = (0, 0) by decide]
  repeat (first | refine VIf.tt ?_ | refine VIf.ff ?_)
  refine VFn.mk _ (Raise_fn _ _ inH [] M10 (hc2.le hM10) (Pts.nil _) (i64_of rfl)) ?_
  rintro rs M11 hM11 rfl
  rw [show raiseB inH [] = (0, 1) by decide]
  repeat (first | refine VIf.tt ?_ | refine VIf.ff ?_)
  refine VFz.mk fun b1 _ M12 hM12 hb1 => ?_
  obtain ⟨ab1, cb1, rfl⟩ := SlAt.shape hb1
  have hc1' : CasV M12 _ outH := hc1.le ((((hM8.trans hM9).trans hM10).trans hM11).trans hM12)
  have hc2' : CasV M12 _ inH := hc2.le ((hM10.trans hM11).trans hM12)
  have hq12 : Pts M12 q protH := hq.le ((((((hM6.trans hM7).trans hM8).trans hM9).trans hM10).trans hM11).trans hM12)
  have hb1 : BelsV M12 _ [⟨0, inH⟩, ⟨5, outH⟩, ⟨5, []⟩] :=
    Arr.of [[.int .i64 0, .slice ac2 1 cc2], [.int .i64 5, .slice ac1 1 cc1], [.int .i64 5, .slice none 0 0]] (by simp) hb1
      ⟨⟨_, rfl, by decide, hc2'⟩, ⟨_, rfl, by decide, hc1'⟩, ⟨_, rfl, by decide, CasV.nil _⟩, trivial⟩
  repeat (first | refine VIf.tt ?_ | refine VIf.ff ?_)
  refine VFn.mk _ (First_fn _ q _ protH M12 hb1 hq12 hq64) ?_
  rintro rs M13 hM13 rfl
  rw [show firstB [⟨0, inH⟩, ⟨5, outH⟩, ⟨5, []⟩] protH = (1, 2, 0) by decide]
  repeat (first | refine VIf.tt ?_ | refine VIf.ff ?_)
  refine VFz.mk fun b2 _ M14 hM14 hb2 => ?_
  obtain ⟨ab2, cb2, rfl⟩ := SlAt.shape hb2
  have hb2 : BelsV M14 _ [⟨0, inH⟩] :=
    Arr.of [[.int .i64 0, .slice ac2 1 cc2]] (by simp) hb2 ⟨⟨_, rfl, by decide, hc2'.le (hM13.trans hM14)⟩, trivial⟩
  repeat (first | refine VIf.tt ?_ | refine VIf.ff ?_)
  refine VFn.mk _ (First_fn _ q _ protH M14 hb2 (hq12.le (hM13.trans hM14)) hq64) ?_
  rintro rs M15 hM15 rfl
  rw [show firstB [⟨0, inH⟩] protH = (1, 0, 0) by decide]
  repeat (first | refine VIf.tt ?_ | refine VIf.ff ?_)
  refine VFact.mk ?_ trivial
  rfl
end Go.Proofs.Ytaobaeiohjgdcaa

/- The bridge from a law's arguments to the data in memory. -/
namespace Go.Proofs.Ytaobaeiohjgdcaa
open Go Go.V Go.RowKit
section
variable {H : Type} {enc : TypeId × Value → H} {P : Program} {w : World} {sp : Nat → Bool} {held : Bool}
/-- All that is in memory. -/
def memOf (w : World) : Mem := fun b => w.heap[b]?
theorem memOf_ok (w : World) : (memOf w).ok w := fun _ _ h => h
theorem memOf_cell {w : World} {a : Addr} {v : Value} (h : w.cell? a = some v) : (memOf w).cell a = some v := by
  unfold Mem.cell memOf
  unfold World.cell? at h
  cases hb : w.heap[a.block]? with
  | none => rw [hb] at h; cases h
  | some o => rw [hb] at h; cases o <;> first | exact h | cases h
/-- What a type's cells say. -/
def Opens {α : Type} (enc : TypeId × Value → H) (P : Program) (w : World) (sp : Nat → Bool) (held : Bool) (D : Mem → α → List Value → Prop) (t : TypeId) (k : Nat) : Prop :=
  ∀ fuel cs x, DataW.trod enc P w 0 sp held fuel t cs = some x → ∃ a, D (memOf w) a cs ∧ cs.length = k ∧ ∀ v ∈ cs, v.oneCell' = true
theorem wf_i64 {n : Int} (h : (Lit.int .i64 n).wf = true) : i64r n := by
  simp [Lit.wf, IntKind.min, IntKind.max, IntKind.signed, IntKind.bits] at h
  unfold i64r; omega
theorem opens_int {t : TypeId} (hu : P.underlying t = some (.int .i64)) : Opens enc P w sp held IntD t 1 := by
  intro fuel cs x h
  obtain ⟨n, rfl, _, hw⟩ := DataW.trod_int hu h
  exact ⟨n, ⟨rfl, wf_i64 hw⟩, rfl, by simp [Value.oneCell']⟩
/-- A list of what was found. -/
theorem list_of {α : Type} {R : Nat → α → Prop} : ∀ (n : Nat), (∀ i, i < n → ∃ x, R i x) → ∃ l : List α, l.length = n ∧ ∀ (i : Nat) (x : α), l[i]? = some x → R i x
  | 0, _ => ⟨[], rfl, fun i x h => by simp at h⟩
  | n + 1, h => by
    obtain ⟨l, h1, h2⟩ := list_of n fun i hi => h i (by omega)
    obtain ⟨x, hx⟩ := h n (by omega)
    refine ⟨l ++ [x], by simp [h1], fun i y hy => ?_⟩
    by_cases e : i < l.length
    · rw [List.getElem?_append_left e] at hy; exact h2 i y hy
    · rw [List.getElem?_append_right (by omega)] at hy
      have hi := (List.getElem?_eq_some_iff.1 hy).1
      simp at hi
      have : i = n := by omega
      subst this
      rw [h1] at hy
      simp at hy
      subst hy; exact hx
theorem opens_slice {α : Type} {D : Mem → α → List Value → Prop} {t e : TypeId} {k : Nat} (hu : P.underlying t = some (.slice e)) (hk : P.cellsOf e = k) (_hk0 : 0 < k) (hD : Opens enc P w sp held D e k) :
    Opens enc P w sp held (fun M l r => ∃ v, r = [v] ∧ Arr D M k v l) t 1 := by
  intro fuel cs x h
  rcases DataW.trod_slice hu h with ⟨rfl, _⟩ | ⟨a, len, cap, elems, rest, n, _, rfl, _, _, hl, hm, hlen, hel, _⟩
  · exact ⟨[], ⟨_, rfl, Arr.of [] (by simp) (SlAt.nil _ k) trivial⟩, rfl, by simp [Value.oneCell']⟩
  have h1 : ∀ i, i < len → ∃ q : α × List Value, D (memOf w) q.1 q.2 ∧ q.2.length = k ∧ (∀ v ∈ q.2, v.oneCell' = true) ∧ ∀ (j : Nat) (y : Value), q.2[j]? = some y → (memOf w).cell (a.add (i * k + j)) = some y := by
    intro i hi
    have h2 := hel i hi
    rw [List.getElem?_eq_getElem (by omega), Option.bind_eq_some_iff] at h2
    obtain ⟨r, hr, hy⟩ := h2
    obtain ⟨x, h3, h4, h5⟩ := hD _ _ _ hy
    obtain ⟨_, h6, h7⟩ := World.cells?_some hr
    refine ⟨(x, r), h3, h4, h5, fun j y hj => ?_⟩
    have hj' := (List.getElem?_eq_some_iff.1 hj).1
    simp only at hj'
    have h8 := h7 j (by omega)
    rw [hj, hk, Addr.add_add] at h8
    exact memOf_cell h8
  obtain ⟨l, hl1, hl2⟩ := list_of len h1
  have hrows : ∀ r ∈ l.map (·.2), r.length = k := fun r hr => by
    obtain ⟨q, hq, rfl⟩ := List.mem_map.1 hr
    obtain ⟨i, hi⟩ := List.getElem?_of_mem hq
    exact (hl2 i q hi).2.1
  refine ⟨l.map (·.1), ⟨_, rfl, l.map (·.2), by simp, hrows, ⟨some a, cap, ?_, ?_, hm, ?_, ?_, ?_⟩, ?_⟩, rfl, by simp [Value.oneCell']⟩
  · simp [hl1]
  · simp [hl1, hl]
  · have : ∀ rows : List (List Value), (∀ r ∈ rows, r.length = k) → rows.flatten.length = rows.length * k := by
      intro rows
      induction rows with
      | nil => simp
      | cons r rows ih => intro h; rw [List.flatten_cons, List.length_append, ih (fun r hr => h r (List.mem_cons_of_mem _ hr)), h r (List.mem_cons_self), List.length_cons, Nat.add_mul]; omega
    rw [this _ hrows]; simp
  · intro v hv
    obtain ⟨r, hr, hv⟩ := List.mem_flatten.1 hv
    obtain ⟨q, hq, rfl⟩ := List.mem_map.1 hr
    obtain ⟨i, hi⟩ := List.getElem?_of_mem hq
    exact (hl2 i q hi).2.2.1 v hv
  · intro _
    refine ⟨a, rfl, fun j v hj => ?_⟩
    have key : ∀ (rows : List (List Value)) (b : Nat), (∀ r ∈ rows, r.length = k) → (∀ i r, rows[i]? = some r → ∀ (j : Nat) (y : Value), r[j]? = some y → (memOf w).cell (a.add ((b + i) * k + j)) = some y) → ∀ (j : Nat) (v : Value), rows.flatten[j]? = some v → (memOf w).cell (a.add (b * k + j)) = some v := by
      intro rows
      induction rows with
      | nil => intro b _ _ j v hj; simp at hj
      | cons r rows ih =>
        intro b hk1 hk2 j v hj
        have hr := hk1 r (List.mem_cons_self)
        rw [List.flatten_cons] at hj
        by_cases e : j < r.length
        · rw [List.getElem?_append_left e] at hj
          exact hk2 0 r rfl j v hj
        · rw [List.getElem?_append_right (by omega)] at hj
          have := ih (b + 1) (fun r hr => hk1 r (List.mem_cons_of_mem _ hr)) (fun i r hi => by rw [show b + 1 + i = b + (i + 1) by omega]; exact hk2 (i + 1) r (by simpa using hi)) _ v hj
          rw [show (b + 1) * k + (j - r.length) = b * k + j by rw [Nat.add_mul, hr]; omega] at this
          exact this
    have := key (l.map (·.2)) 0 hrows (fun i r hi j y hj => by
      rw [List.getElem?_map] at hi
      cases hq : l[i]? with
      | none => rw [hq] at hi; cases hi
      | some q =>
        rw [hq] at hi
        simp only [Option.map_some, Option.some.injEq] at hi
        subst hi
        rw [Nat.zero_add]
        exact (hl2 i q hq).2.2.2 j y hj) j v hj
    simpa using this
  · intro i x r hx hr
    rw [List.getElem?_map] at hx hr
    cases hq : l[i]? with
    | none => rw [hq] at hx; cases hx
    | some q =>
      rw [hq] at hx hr
      simp only [Option.map_some, Option.some.injEq] at hx hr
      subst hx hr
      exact (hl2 i q hq).1
end
end Go.Proofs.Ytaobaeiohjgdcaa

/- The bridge: the types of this program; what a law leaves. -/
namespace Go.Proofs.Ytaobaeiohjgdcaa
open Go Go.V Go.RowKit
section
variable {H : Type} {enc : TypeId × Value → H} {w : World} {sp : Nat → Bool} {held : Bool}
def PtD (_ : Mem) (p : Pt) (r : List Value) : Prop := r = [.int .i64 p.1, .int .i64 p.2] ∧ i64r p.1 ∧ i64r p.2
theorem field0 {P : Program} {t : TypeId} {fs : Array Field} {fuel : Nat} {cs : List Value} {x : DataW H × List MemPlace} (hu : P.underlying t = some (.struct fs)) (h : DataW.trod enc P w 0 sp held fuel t cs = some x) :
    cs.length = P.cellsOf t ∧ ∃ n, ∀ (i : Nat) (f : Field), fs[i]? = some f → ∃ y, DataW.trod enc P w 0 sp held n f.type ((cs.drop f.offset).take (P.cellsOf f.type)) = some y := by
  obtain ⟨xs, n, _, _, hl, hx, hf⟩ := DataW.trod_struct hu h
  refine ⟨hl, n, fun i f hi => ?_⟩
  have := hf i f hi
  have hlt := (Array.getElem?_eq_some_iff.1 hi).1
  rw [List.getElem?_eq_getElem (by omega)] at this
  exact ⟨_, this⟩
theorem len2 {α : Type} {l : List α} (h : l.length = 2) : ∃ a b, l = [a, b] := by
  match l, h with
  | [a, b], _ => exact ⟨a, b, rfl⟩
theorem len3 {α : Type} {l : List α} (h : l.length = 3) : ∃ a b c, l = [a, b, c] := by
  match l, h with
  | [a, b, c], _ => exact ⟨a, b, c, rfl⟩
theorem opens3 : Opens enc Try.prog w sp held IntD 3 1 := opens_int Try.underlying3
theorem opens39 : Opens enc Try.prog w sp held PtD 39 2 := by
  intro fuel cs x h
  obtain ⟨hl, n, hf⟩ := field0 Try.underlying39 h
  have hk : Try.prog.cellsOf 39 = 2 := by kernel_rfl
  have hk3 : Try.prog.cellsOf 3 = 1 := by kernel_rfl
  rw [hk] at hl
  obtain ⟨a, b, rfl⟩ : ∃ a b, cs = [a, b] := len2 hl
  obtain ⟨y, hy⟩ := hf 0 _ rfl
  obtain ⟨z, hz⟩ := hf 1 _ rfl
  have hy : DataW.trod enc Try.prog w 0 sp held n 3 ((List.drop 0 [a, b]).take (Try.prog.cellsOf 3)) = some y := hy
  rw [hk3] at hy
  have hz : DataW.trod enc Try.prog w 0 sp held n 3 ((List.drop 1 [a, b]).take (Try.prog.cellsOf 3)) = some z := hz
  rw [hk3] at hz
  obtain ⟨n1, ⟨h1, g1⟩, _⟩ := opens3 _ _ _ hy
  obtain ⟨n2, ⟨h2, g2⟩, _⟩ := opens3 _ _ _ hz
  simp at h1 h2
  subst h1 h2
  exact ⟨(n1, n2), ⟨rfl, g1, g2⟩, rfl, by simp [Value.oneCell']⟩
theorem cellsP_rows (ps : List Pt) : (ps.map fun p => [Value.int .i64 p.1, Value.int .i64 p.2]).flatten = cellsP ps := by
  induction ps with
  | nil => rfl
  | cons p ps ih => simp only [List.map_cons, List.flatten_cons, ih]; rfl
theorem Pts.of_arr {M : Mem} {v : Value} {ps : List Pt} (h : Arr PtD M 2 v ps) : Pts M v ps ∧ i64P ps := by
  obtain ⟨rows, h1, h2, h3, h4⟩ := h
  have e : rows = ps.map fun p => [Value.int .i64 p.1, Value.int .i64 p.2] := by
    apply List.ext_getElem?
    intro i
    rw [List.getElem?_map]
    cases hp : ps[i]? with
    | none =>
      have := List.getElem?_eq_none_iff.1 hp
      simp only [Option.map_none]
      exact List.getElem?_eq_none (by omega)
    | some p =>
      have hi := (List.getElem?_eq_some_iff.1 hp).1
      have hr : rows[i]? = some (rows[i]'(by omega)) := List.getElem?_eq_getElem (by omega)
      rw [hr]
      simp only [Option.map_some, Option.some.injEq]
      exact (h4 i p _ hp hr).1
  rw [e, cellsP_rows] at h3
  refine ⟨h3, fun i hi => ?_⟩
  have hp := getD_get (0, 0) hi
  have hr : rows[i]? = some (rows[i]'(by omega)) := List.getElem?_eq_getElem (by omega)
  exact (h4 i _ _ hp hr).2
theorem opens24 : Opens enc Try.prog w sp held PolyD 24 1 := by
  intro fuel cs x h
  obtain ⟨l, ⟨v, rfl, ha⟩, h2, h3⟩ := opens_slice Try.underlying24 (k := 2) (by kernel_rfl) (by omega) opens39 fuel cs x h
  exact ⟨l, ⟨v, rfl, Pts.of_arr ha⟩, h2, h3⟩
theorem opens43 : Opens enc Try.prog w sp held (fun M l r => ∃ v, r = [v] ∧ IntsV M v l) 43 1 := opens_slice Try.underlying43 (by kernel_rfl) (by omega) opens3
theorem opens44 : Opens enc Try.prog w sp held (fun M l r => ∃ v, r = [v] ∧ RegV M v l) 44 1 := opens_slice Try.underlying44 (by kernel_rfl) (by omega) opens24
theorem opens46 : Opens enc Try.prog w sp held CaseD 46 3 := by
  intro fuel cs x h
  obtain ⟨hl, n, hf⟩ := field0 Try.underlying46 h
  have hk : Try.prog.cellsOf 46 = 3 := by kernel_rfl
  have hk43 : Try.prog.cellsOf 43 = 1 := by kernel_rfl
  have hk44 : Try.prog.cellsOf 44 = 1 := by kernel_rfl
  rw [hk] at hl
  obtain ⟨a, b, c, rfl⟩ : ∃ a b c, cs = [a, b, c] := len3 hl
  obtain ⟨y, hy⟩ := hf 0 _ rfl
  obtain ⟨z, hz⟩ := hf 1 _ rfl
  obtain ⟨u, hu⟩ := hf 2 _ rfl
  have hy : DataW.trod enc Try.prog w 0 sp held n 43 ((List.drop 0 [a, b, c]).take (Try.prog.cellsOf 43)) = some y := hy
  rw [hk43] at hy
  have hz : DataW.trod enc Try.prog w 0 sp held n 43 ((List.drop 1 [a, b, c]).take (Try.prog.cellsOf 43)) = some z := hz
  rw [hk43] at hz
  have hu : DataW.trod enc Try.prog w 0 sp held n 44 ((List.drop 2 [a, b, c]).take (Try.prog.cellsOf 44)) = some u := hu
  rw [hk44] at hu
  obtain ⟨l1, ⟨v1, h1, g1⟩, _, o1⟩ := opens43 _ _ _ hy
  obtain ⟨l2, ⟨v2, h2, g2⟩, _, o2⟩ := opens43 _ _ _ hz
  obtain ⟨l3, ⟨v3, h3, g3⟩, _, o3⟩ := opens44 _ _ _ hu
  simp at h1 h2 h3
  subst h1 h2 h3
  exact ⟨⟨l1, l2, l3⟩, ⟨_, _, _, rfl, g1, g2, g3⟩, rfl, by simp [g1.one, g2.one, g3.one]⟩
theorem opens22 : Opens enc Try.prog w sp held (fun M l r => ∃ v, r = [v] ∧ CasV M v l) 22 1 := opens_slice Try.underlying22 (by kernel_rfl) (by omega) opens46
theorem CasV.one {M : Mem} {v : Value} {l : List CaseS} (h : CasV M v l) : v.oneCell' = true := by obtain ⟨ad, c, rfl, _⟩ := h.get; rfl
theorem opens36 : Opens enc Try.prog w sp held BelD 36 2 := by
  intro fuel cs x h
  obtain ⟨hl, n, hf⟩ := field0 Try.underlying36 h
  have hk : Try.prog.cellsOf 36 = 2 := by kernel_rfl
  have hk3 : Try.prog.cellsOf 3 = 1 := by kernel_rfl
  have hk22 : Try.prog.cellsOf 22 = 1 := by kernel_rfl
  rw [hk] at hl
  obtain ⟨a, b, rfl⟩ : ∃ a b, cs = [a, b] := len2 hl
  obtain ⟨y, hy⟩ := hf 0 _ rfl
  obtain ⟨z, hz⟩ := hf 1 _ rfl
  have hy : DataW.trod enc Try.prog w 0 sp held n 3 ((List.drop 0 [a, b]).take (Try.prog.cellsOf 3)) = some y := hy
  rw [hk3] at hy
  have hz : DataW.trod enc Try.prog w 0 sp held n 22 ((List.drop 1 [a, b]).take (Try.prog.cellsOf 22)) = some z := hz
  rw [hk22] at hz
  obtain ⟨n1, ⟨h1, g1⟩, _⟩ := opens3 _ _ _ hy
  obtain ⟨l2, ⟨v2, h2, g2⟩, _, o2⟩ := opens22 _ _ _ hz
  simp at h1 h2
  subst h1 h2
  refine ⟨⟨n1, l2⟩, ⟨_, rfl, g1, g2⟩, rfl, fun v hv => ?_⟩
  simp at hv
  rcases hv with rfl | rfl
  · rfl
  · exact g2.one
theorem opens23 : Opens enc Try.prog w sp held (fun M l r => ∃ v, r = [v] ∧ BelsV M v l) 23 1 := opens_slice Try.underlying23 (by kernel_rfl) (by omega) opens36
end
section
variable {H : Type} {enc : TypeId × Value → H} {P : Program}
theorem trodAll_stays (hl : laidOutB P = true) {W W' : World} (hb : Below W.heap.size W W') (sp : Nat → Bool) : ∀ {ts : List TypeId} {vs : List Value} {ds : List (DataW H)} {ps : List MemPlace}, (∀ t ∈ ts, P.readableRec t = true ∧ t < P.types.size) →
    DataW.TrodAll enc P W 0 (fun _ => true) true ts vs ds ps → (∀ x ∈ ps, x.block < W.heap.size) → (∀ x ∈ ps, sp x.block = true) → DataW.TrodAll enc P W' 0 sp true ts vs ds ps
  | [], _, _, _, _, h, _, _ => by
    obtain ⟨rfl, rfl, rfl⟩ := ChangeShapes.trodAll_nil h
    rfl
  | t :: ts, _, _, _, ht, h, hlt, hsp => by
    obtain ⟨v, vs, d, ds, p, q, rfl, rfl, rfl, h1, h2⟩ := ChangeShapes.trodAll_cons h
    refine ⟨p, q, ?_, trodAll_stays hl hb sp (fun t h => ht t (List.mem_cons_of_mem _ h)) h2 (fun x hx => hlt x (List.mem_append_right _ hx)) (fun x hx => hsp x (List.mem_append_right _ hx)), rfl⟩
    exact WideElems.Trod_stays hl (ht t List.mem_cons_self).1 (ht t List.mem_cons_self).2 h1 (fun x hx => hb.same (hlt x (List.mem_append_left _ hx))) (fun x hx => hsp x (List.mem_append_left _ hx))
theorem post_of_below {f : Func} {s : ChangeSpec} {apart fresh handsOn again : Bool} {W W' : World} {args : Array Value} {v : Value} {ds : List (DataW H)} {before : List MemPlace}
    (hl : laidOutB P = true) (hr : ∀ t ∈ f.params.toList, P.readableRec t = true ∧ t < P.types.size) (hvs : s.vars = [])
    (hW : DataW.Whole enc P f.params.toList s.vars apart W args.toList ds [] before) (hA : DataW.TrodAll enc P W 0 (fun _ => true) true f.params.toList args.toList ds before)
    (hres : ∀ (b : Nat) (sp : Nat → Bool) (hd : Bool), DataW.TrodAll enc P W' b sp hd f.resultTypes.toList (v.resultList f.resultTypes.size) (s.fn H (ds ++ [])).results [])
    (hargs : (s.fn H (ds ++ [])).args = ds) (hvars : (s.fn H (ds ++ [])).vars = []) (hb : Below W.heap.size W W')
    (hok : ∀ (j : Nat) (t : TypeId) (r : Value), f.resultTypes[j]? = some t → (v.resultList f.resultTypes.size)[j]? = some r → Value.okWide P W' .any 0 t r) :
    s.post enc P f apart fresh handsOn again W args v W' := by
  have hlt : ∀ p ∈ before, p.block < W.heap.size := fun p hp => by simpa using hW.lt p hp
  have hold : ∀ p ∈ before, (fun b => decide (b < W.heap.size)) p.block = true := fun p hp => by simpa using hlt p hp
  have st : ∀ sp : Nat → Bool, (∀ p ∈ before, sp p.block = true) → DataW.TrodAll enc P W' 0 sp true f.params.toList args.toList (s.fn H (ds ++ [])).args before := fun sp hsp => by
    rw [hargs]; exact trodAll_stays hl hb sp hr hA hlt hsp
  have sv : ∀ sp : Nat → Bool, DataW.TrodVars enc P W' sp s.vars (s.fn H (ds ++ [])).vars [] := fun sp => by rw [hvs, hvars]; rfl
  refine ⟨ds, [], before, [], before, [], hW, hres _ _ _, st _ hold, sv _, hb.frame _, fun _ => ?_⟩
  obtain ⟨_, _, _, _, _, hz, hn⟩ := hW
  refine ⟨hok, _, _, ([] ++ before) ++ [], ⟨[] ++ before, [], ChangeShapes.trodAll_append (st _ (fun _ _ => rfl)) (hres _ _ _), sv _, rfl, ?_, ?_⟩, ?_⟩
  · intro b off hp
    have hp' : MemPlace.cell b off ∈ before := by simpa using hp
    rw [hb.frozen (show (⟨b, off, none⟩ : Addr).block < W.heap.size from hlt _ hp')]
    exact hz b off hp'
  · intro ha
    simpa using hn ha
  · intro p hp _
    simpa using hp
end
theorem laid : laidOutB Try.prog = true := by kernel_rfl
theorem own : ownKnob Try.prog.godebug = none := by kernel_rfl
end Go.Proofs.Ytaobaeiohjgdcaa

/- Contracts: region.Has. -/
namespace Go.Proofs.Ytaobaeiohjgdcaa
open Go Go.V Go.RowKit
theorem regPlace_fn (x y : Int) (M : Mem) : FnP Try.prog 59 [pt x y] M [.bool (isCb x && isCb y)] := by
  refine Fn.of_vc cxOK Try.func59 rfl rfl rfl ?_
  repeat' (first | refine VIf.tt ?_ | refine VIf.ff ?_ | refine VIf.mk (fun _ => ?_) (fun _ => ?_) | refine VFact.mk ?_ trivial)
  all_goals (refine ⟨bool1 ?_, rfl⟩; simp only [isCb, Bool.and_eq_true, decide_eq_true_eq, decide_eq_false_iff_not, Bool.false_eq_true, false_iff] at *; omega)
theorem regHas1_fn (w : Value) (ps : List Pt) (B : Nat) (x y : Int) (M : Mem) (hB : M B = some (.cells #[.int .i64 x, .int .i64 y] 39 (0, 0))) (hw : Pts M w ps) (h64 : i64P ps) (hV : validB ps = true) (hP : placeB (x, y) = true) :
    V.Fn Try.prog 60 [w, .pointer (some ⟨B, 0, none⟩)] M fun rs _ => rs = [.bool (hasB ps (x, y))] := by
  obtain ⟨ad, c, rfl⟩ := hw.shape
  have hxy : isC x ∧ isC y := by
    simp only [placeB, Bool.and_eq_true] at hP
    exact ⟨isCb_iff.1 hP.1, isCb_iff.1 hP.2⟩
  refine Fn.of_vc cxOK Try.func60 rfl rfl rfl ?_
  repeat (first | refine VIf.tt ?_ | refine VIf.ff ?_)
  refine VReads.mk [.int .i64 x, .int .i64 y] rfl (fun j v hj => cellAt hB j (by simpa using hj)) ?_
  repeat (first | refine VIf.tt ?_ | refine VIf.ff ?_)
  refine VFn.mk _ (Has_fn _ ps x y M hw h64 (isC_i64 hxy.1) (isC_i64 hxy.2)) ?_
  rintro rs M1 hM1 rfl
  rw [hV, hP]
  repeat (first | refine VIf.tt ?_ | refine VIf.ff ?_)
  exact VFact.mk rfl trivial
theorem regHas_fn (v : Value) (r : List (List Pt)) (x y : Int) (M : Mem) (hv : RegV M v r) : V.Fn Try.prog 27 [v, pt x y] M fun rs _ => rs = if (regionB r && placeB (x, y)) = true then [.bool (r.any fun p => hasB p (x, y)), .int .i64 0] else [.bool false, .int .i64 1] := by
  obtain ⟨ad, c, rfl⟩ := hv.shape
  refine Fn.of_vc cxOK Try.func27 rfl rfl rfl ?_
  repeat (first | refine VIf.tt ?_ | refine VIf.ff ?_)
  refine VFn.mk _ (regValid_fn _ r M hv) ?_
  rintro rs M1 hM1 rfl
  repeat (first | refine VIf.tt ?_ | refine VIf.ff ?_)
  refine VIf.mk (fun hV => ?_) (fun hV => ?_)
  · repeat (first | refine VIf.tt ?_ | refine VIf.ff ?_)
    refine VFact.mk ?_ trivial
    rw [bn1 hV]; rfl
  repeat (first | refine VIf.tt ?_ | refine VIf.ff ?_)
  refine VFn.p (regPlace_fn _ _ _) ?_
  repeat (first | refine VIf.tt ?_ | refine VIf.ff ?_)
  refine VIf.mk (fun hP => ?_) (fun hP => ?_)
  · repeat (first | refine VIf.tt ?_ | refine VIf.ff ?_)
    refine VFact.mk ?_ trivial
    rw [show placeB (x, y) = false from bn1 hP, Bool.and_false]; rfl
  have hV := bn2 hV
  have hP : placeB (x, y) = true := bn2 hP
  rw [hV, hP]
  repeat (first | refine VIf.tt ?_ | refine VIf.ff ?_)
  refine VOwn.frz ?_
  repeat (first | refine VIf.tt ?_ | refine VIf.ff ?_)
  refine VFzB.mk fun u B M2 hM2 hB => ?_
  have m2 : M.le M2 := hM1.trans hM2
  have hall : r.all validB = true := by
    simp only [regionB, Bool.and_eq_true] at hV
    exact hV.2
  repeat (first | refine VIf.tt ?_ | refine VIf.ff ?_)
  refine VFn.mk _ (ContainsR1_fn _ r _ (.pointer (some ⟨B, 0, none⟩)) (fun p => hasB p (x, y)) M2 (hv.le m2) fun i hi M' hM' w hw h64 => regHas1_fn w _ B x y M' (hM' _ _ hB) hw h64 (all_at [] hall hi) hP) ?_
  rintro rs M3 hM3 rfl
  repeat (first | refine VIf.tt ?_ | refine VIf.ff ?_)
  exact VFact.mk rfl trivial
theorem Has_is {v : Value} {ps : List Pt} {x y : Int} {M : Mem} {b : Bool} (hv : Pts M v ps) (hi64 : i64P ps) (hx : i64r x) (hy : i64r y) (hV : validB ps = true) (hP : placeB (x, y) = true) (hb : hasB ps (x, y) = b) : V.Fn Try.prog 26 [v, pt x y] M fun rs _ => rs = [.bool b, .int .i64 0] :=
  (Has_fn v ps x y M hv hi64 hx hy).mono fun rs M' _ h => by rw [h, hV, hP, hb]; rfl
theorem regHas_is {v : Value} {r : List (List Pt)} {x y : Int} {M : Mem} {b : Bool} (hv : RegV M v r) (hV : regionB r = true) (hP : placeB (x, y) = true) (hb : (r.any fun p => hasB p (x, y)) = b) : V.Fn Try.prog 27 [v, pt x y] M fun rs _ => rs = [.bool b, .int .i64 0] :=
  (regHas_fn v r x y M hv).mono fun rs M' _ h => by rw [h, hV, hP, hb]; rfl
theorem Raise_is {v w : Value} {cs : List CaseS} {q : List Pt} {M : Mem} {r : Int × Int} (hv : CasV M v cs) (hw : Pts M w q) (hq64 : i64P q) (hr : raiseB cs q = r) : V.Fn Try.prog 19 [v, w] M fun rs _ => rs = raiseV r :=
  (Raise_fn v w cs q M hv hw hq64).mono fun rs M' _ h => by rw [h, hr]
theorem First_is {v w : Value} {bs : List BelS} {q : List Pt} {M : Mem} {r : Int × Int × Int} (hv : BelsV M v bs) (hw : Pts M w q) (hq64 : i64P q) (hr : firstB bs q = r) : V.Fn Try.prog 21 [v, w] M fun rs _ => rs = firstV r :=
  (First_fn v w bs q M hv hw hq64).mono fun rs M' _ h => by rw [h, hr]
theorem Valid_is {v : Value} {ps : List Pt} {M : Mem} {b : Bool} (hv : Pts M v ps) (hi64 : i64P ps) (hb : validB ps = b) : V.Fn Try.prog 25 [v] M fun rs _ => rs = [.bool b] :=
  (Valid_fn v ps M hv hi64).mono fun rs M' _ h => by rw [h, hb]
end Go.Proofs.Ytaobaeiohjgdcaa

/- Contracts: hull.Hull of one place; package mink's Shift. -/
namespace Go.Proofs.Ytaobaeiohjgdcaa
open Go Go.V Go.RowKit
theorem IndexP_fn (v : Value) (ps : List Pt) (fid : Nat) (g : Pt → Bool) (M : Mem) (hv : Pts M v ps) (hg : ∀ i, i < ps.length → ∀ M', FnP Try.prog fid [ptv (gp ps i)] M' [.bool (g (gp ps i))]) :
    V.Fn Try.prog 94 [v, .func (.func fid) #[] #[]] M fun rs _ => ∃ k : Int, rs = [.int .i64 k] ∧ (0 ≤ k ↔ ps.any g = true) := by
  obtain ⟨ad, c, rfl⟩ := hv.shape
  obtain ⟨_, hm, hrd⟩ := hv.cellsOf
  unfold maxLen at hm
  refine Fn.of_vc cxOK Try.func94 rfl rfl rfl ?_
  repeat (first | refine VIf.tt ?_ | refine VIf.ff ?_)
  refine VCode.loop cxOK Nat (fun i => ⟨[(0, .v (.slice ad ps.length c)), (1, .v (.func (.func fid) #[] #[])), (7, .v (.int .i64 ps.length)), (8, .v (.int .i64 i))], [], 0, M, 19, ⟨fun _ => none, none, fun _ => none⟩⟩)
    (fun i => i ≤ ps.length ∧ ∀ j, j < i → g (gp ps j) = false) (fun i => ps.length - i) 0 ⟨Nat.zero_le _, fun j hj => by simp at hj⟩ (Wk.mk' id (by repeat' constructor) (by repeat' constructor) (injOK_id _) rfl rfl rfl) ?_
  rintro i ⟨hi, hz⟩ m
  repeat (first | refine VIf.tt ?_ | refine VIf.ff ?_)
  refine VIf.mk (fun hlt => ?_) (fun hge => ?_)
  · have hlt := lt_of_dec hlt
    obtain ⟨ad', ead, hpi⟩ := hrd M (Mem.le_refl _) i hlt
    repeat (first | refine VIf.tt ?_ | refine VIf.ff ?_)
    refine VIdx.mk ad' i ead rfl hlt ?_
    repeat (first | refine VIf.tt ?_ | refine VIf.ff ?_)
    refine VReads.mk [.int .i64 (gp ps i).1, .int .i64 (gp ps i).2] rfl hpi ?_
    repeat (first | refine VIf.tt ?_ | refine VIf.ff ?_)
    refine VFn.p (hg i hlt M) ?_
    repeat (first | refine VIf.tt ?_ | refine VIf.ff ?_)
    refine VIf.mk (fun hc => ?_) (fun hc => ?_)
    · repeat (first | refine VIf.tt ?_ | refine VIf.ff ?_)
      refine VFact.mk ⟨i, rfl, ?_⟩ trivial
      have := any_getD (0, 0) g ps hlt hc
      simp [this]
    · repeat (first | refine VIf.tt ?_ | refine VIf.ff ?_)
      refine VArith.ok (by first | omega | (simp only; omega)) (by first | omega | (simp only; omega)) ?_
      refine ⟨i + 1, ⟨hlt, fun j hj => ?_⟩, (by first | omega | (simp only; omega)), (Wk.mk' id (by repeat' constructor) (by repeat' constructor) (injOK_id _) rfl rfl rfl)⟩
      by_cases e : j = i
      · subst e; exact hc
      · exact hz j (by omega)
  · have : i = ps.length := by have := ge_of_dec hge; omega
    subst this
    repeat (first | refine VIf.tt ?_ | refine VIf.ff ?_)
    refine VFact.mk ⟨-1, rfl, ?_⟩ trivial
    have := any_none (0, 0) g ps hz
    simp [this]
theorem ContainsP_fn (v : Value) (ps : List Pt) (fid : Nat) (g : Pt → Bool) (M : Mem) (hv : Pts M v ps) (hg : ∀ i, i < ps.length → ∀ M', FnP Try.prog fid [ptv (gp ps i)] M' [.bool (g (gp ps i))]) :
    V.Fn Try.prog 62 [v, .func (.func fid) #[] #[]] M fun rs _ => rs = [.bool (ps.any g)] := by
  obtain ⟨ad, c, rfl⟩ := hv.shape
  refine Fn.of_vc cxOK Try.func62 rfl rfl rfl ?_
  repeat (first | refine VIf.tt ?_ | refine VIf.ff ?_)
  refine VFn.mk _ (IndexP_fn _ ps fid g M hv hg) ?_
  rintro rs M1 hM1 ⟨k, rfl, hk⟩
  repeat (first | refine VIf.tt ?_ | refine VIf.ff ?_)
  refine VFact.mk (bool1 ?_) trivial
  rw [← hk]; simp
theorem Hull1_fn (p : Pt) (h1 : i64r p.1) (h2 : i64r p.2) (M : Mem) : FnP Try.prog 63 [ptv p] M [.bool (!placeB p)] := by
  refine Fn.of_vc cxOK Try.func63 rfl rfl rfl ?_
  repeat (first | refine VIf.tt ?_ | refine VIf.ff ?_)
  refine VFn.p (isPlace_fn _ _ _ h1 h2) ?_
  repeat (first | refine VIf.tt ?_ | refine VIf.ff ?_)
  exact VFact.mk ⟨rfl, rfl⟩ trivial
theorem Clone_fn (v : Value) (ps : List Pt) (M : Mem) (hv : Pts M v ps) (hn : 1 ≤ ps.length) (hn' : ps.length ≤ 100000) : V.Fn Try.prog 95 [v] M fun rs M' => ∃ u, rs = [u] ∧ Pts M' u ps := by
  obtain ⟨ad, c, rfl⟩ := hv.shape
  obtain ⟨_, hm, hrd⟩ := hv.cellsOf
  obtain ⟨ad', rfl, _⟩ := hrd M (Mem.le_refl _) 0 (by omega)
  refine Fn.of_vc cxOK Try.func95 rfl rfl rfl ?_
  repeat (first | refine VIf.tt ?_ | refine VIf.ff ?_)
  refine VSl.mk ps.length (cellsP ps) hv ?_
  repeat (first | refine VIf.tt ?_ | refine VIf.ff ?_)
  refine VFact.mk (by simp only; omega) ?_
  repeat (first | refine VIf.tt ?_ | refine VIf.ff ?_)
  refine VFz.mk fun x B M' hle hx => ?_
  repeat (first | refine VIf.tt ?_ | refine VIf.ff ?_)
  refine VFact.mk ⟨x, rfl, ?_⟩ trivial
  have e : SlAt M' 2 x (0 + ps.length) ([] ++ cellsP ps) := hx
  rw [Nat.zero_add, List.nil_append] at e
  exact e
theorem insert1_fn (v : Value) (f : Nat) (M : Mem) : FnP Try.prog 118 [v, .int .i64 0, .int .i64 1, .func (.func f) #[] #[]] M [] := by
  refine Fn.of_vc cxOK Try.func118 rfl rfl rfl ?_
  repeat (first | refine VIf.tt ?_ | refine VIf.ff ?_)
  refine VArith.ok (by first | omega | (simp only; omega)) (by first | omega | (simp only; omega)) ?_
  repeat (first | refine VIf.tt ?_ | refine VIf.ff ?_)
  refine VCode.loop cxOK Unit (fun _ => ⟨[(2, .v (.int .i64 1)), (8, .v (.int .i64 1))], [], 0, M, 53, ⟨fun _ => none, none, fun _ => none⟩⟩) (fun _ => True) (fun _ => 0) () trivial (Wk.mk' id (by repeat' constructor) (by repeat' constructor) (injOK_id _) rfl rfl rfl) ?_
  rintro _ _ m
  repeat (first | refine VIf.tt ?_ | refine VIf.ff ?_)
  exact VFact.mk ⟨rfl, rfl⟩ trivial
theorem pdq1_fn (v : Value) (f : Nat) (l : Int) (M : Mem) : FnP Try.prog 113 [v, .int .i64 0, .int .i64 1, .int .i64 l, .func (.func f) #[] #[]] M [] := by
  refine Fn.of_vc cxOK Try.func113 rfl rfl rfl ?_
  repeat (first | refine VIf.tt ?_ | refine VIf.ff ?_)
  refine VCode.loop cxOK Unit (fun _ => ⟨[(0, .v v), (1, .v (.int .i64 0)), (2, .v (.int .i64 1)), (4, .v (.func (.func f) #[] #[]))], [], 0, M, 148, ⟨fun _ => none, none, fun _ => none⟩⟩) (fun _ => True) (fun _ => 0) () trivial (Wk.mk' id (by repeat' constructor) (by repeat' constructor) (injOK_id _) rfl rfl rfl) ?_
  rintro _ _ m
  repeat (first | refine VIf.tt ?_ | refine VIf.ff ?_)
  refine VArith.ok (by first | omega | (simp only; omega)) (by first | omega | (simp only; omega)) ?_
  repeat (first | refine VIf.tt ?_ | refine VIf.ff ?_)
  refine VFn.p (insert1_fn _ _ _) ?_
  repeat (first | refine VIf.tt ?_ | refine VIf.ff ?_)
  exact VFact.mk ⟨rfl, rfl⟩ trivial
end Go.Proofs.Ytaobaeiohjgdcaa

/- Contract: the number of bits of one. -/
namespace Go.Proofs.Ytaobaeiohjgdcaa
open Go Go.V Go.RowKit
set_option maxRecDepth 100000 in
set_option maxHeartbeats 1000000 in
theorem len64_one (w : World) : Calls Try.prog 127 #[.int .u64 1] w fun e w' => e = .returned (.int .i64 1) ∧ w' = w := by
  go_enter Try.func127, Try.ntmps127
  go_wp2
  go_ret
  exact ⟨by kernel_rfl, rfl⟩
set_option maxRecDepth 100000 in
set_option maxHeartbeats 1000000 in
theorem len_one_any (w : World) : Calls Try.prog 114 #[.int .u64 1] w fun e w' => e = .returned (.int .i64 1) ∧ w' = w := by
  go_enter Try.func114, Try.ntmps114
  go_wp2_with (go_at_call 127; refine (len64_one _).mono ?_; rintro e w' ⟨rfl, rfl⟩)
  go_ret
  exact ⟨by kernel_rfl, rfl⟩
theorem FnP.of_same {P : Program} {f : Nat} {args : List Value} {M : Mem} {vs : List Value} (he : Enters P f) (h : ∀ W, Calls P f args.toArray W fun e w' => e = .returned (ret vs) ∧ w' = W) : FnP P f args M vs :=
  ⟨he, fun W hW => (h W).mono fun e w' ⟨h1, h2⟩ => ⟨vs, M, h1, h2 ▸ Below.refl _ _, Mem.le_refl _, h2 ▸ hW, fun _ _ => rfl, rfl, rfl⟩⟩
theorem Len1_fn (M : Mem) : FnP Try.prog 114 [.int .u64 1] M [.int .i64 1] :=
  FnP.of_same (enters_of Try.func114 (by kernel_rfl) rfl) len_one_any
end Go.Proofs.Ytaobaeiohjgdcaa
