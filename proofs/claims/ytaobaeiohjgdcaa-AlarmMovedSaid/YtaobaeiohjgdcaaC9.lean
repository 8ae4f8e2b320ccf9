/- Contracts: rising lists, comparisons of lists. -/
import Derived.Test.YtaobaeiohjgdcaaC8
namespace Go.Proofs.Ytaobaeiohjgdcaa
open Go Go.V Go.RowKit
theorem gi_idx {l : List Int} {i : Nat} (h : i < l.length) : l[i]? = some (gi l i) := getD_get 0 h
theorem rising_fn (v : Value) (l : List Int) (lo hi : Int) (M : Mem) (hv : IntsV M v l) : FnP Try.prog 81 [v, .int .i64 lo, .int .i64 hi] M [.bool (risingB lo hi l)] := by
  obtain ⟨ad, c, rfl, hm, hrd⟩ := hv.get
  refine Fn.of_vc cxOK Try.func81 rfl rfl rfl ?_
  repeat (first | refine VIf.tt ?_ | refine VIf.ff ?_)
  refine VCode.loop cxOK Nat (fun i => ⟨[(0, .v (.slice ad l.length c)), (1, .v (.int .i64 lo)), (2, .v (.int .i64 hi)), (9, .v (.slice ad l.length c)), (10, .v (.int .i64 l.length)), (11, .v (.int .i64 i))], [], 0, M, 38, ⟨fun _ => none, none, fun _ => none⟩⟩)
    (fun i => i ≤ l.length ∧ ∀ j, j < i → rise1 lo hi l j = true) (fun i => l.length - i) 0 ⟨Nat.zero_le _, fun j hj => by omega⟩ (Wk.mk' id (by repeat' constructor) (by repeat' constructor) (injOK_id _) rfl rfl rfl) ?_
  rintro i ⟨hi', hz⟩ m
  repeat (first | refine VIf.tt ?_ | refine VIf.ff ?_)
  refine VIf.mk (fun hlt => ?_) (fun hge => ?_)
  · have hlt := lt_of_dec hlt
    obtain ⟨ad', rfl, _, hc1⟩ := hrd M (Mem.le_refl _) i hlt
    have bad : rise1 lo hi l i = false → risingB lo hi l = false := fun h => all_false hlt h
    repeat (first | refine VIf.tt ?_ | refine VIf.ff ?_)
    refine VIdx.mk ad' i rfl rfl hlt ?_
    repeat (first | refine VIf.tt ?_ | refine VIf.ff ?_)
    refine VRead.mk _ hc1 ?_
    repeat (first | refine VIf.tt ?_ | refine VIf.ff ?_)
    refine VIf.mk (fun h1 => ?_) (fun h1 => ?_)
    · repeat (first | refine VIf.tt ?_ | refine VIf.ff ?_)
      refine VFact.mk ⟨?_, rfl⟩ trivial
      have h1 := of_decide_eq_true h1
      rw [bad (by simp only [rise1, Bool.and_eq_false_iff, decide_eq_false_iff_not]; omega)]
    repeat (first | refine VIf.tt ?_ | refine VIf.ff ?_)
    refine VIf.mk (fun h2 => ?_) (fun h2 => ?_)
    · repeat (first | refine VIf.tt ?_ | refine VIf.ff ?_)
      refine VFact.mk ⟨?_, rfl⟩ trivial
      have h2 := of_decide_eq_true h2
      rw [bad (by simp only [rise1, Bool.and_eq_false_iff, decide_eq_false_iff_not]; omega)]
    have h1 := of_decide_eq_false h1
    have h2 := of_decide_eq_false h2
    repeat (first | refine VIf.tt ?_ | refine VIf.ff ?_)
    refine VIf.mk (fun h3 => ?_) (fun h3 => ?_)
    · have h3 := of_decide_eq_true h3
      obtain ⟨_, he, _, hc2⟩ := hrd M (Mem.le_refl _) (i - 1) (by omega)
      cases he
      repeat (first | refine VIf.tt ?_ | refine VIf.ff ?_)
      refine VArith.ok (by first | omega | (simp only; omega)) (by first | omega | (simp only; omega)) ?_
      repeat (first | refine VIf.tt ?_ | refine VIf.ff ?_)
      refine VIdx.mk ad' (i - 1) rfl (by omega) (by omega) ?_
      repeat (first | refine VIf.tt ?_ | refine VIf.ff ?_)
      refine VRead.mk _ hc2 ?_
      repeat (first | refine VIf.tt ?_ | refine VIf.ff ?_)
      refine VIf.mk (fun h4 => ?_) (fun h4 => ?_)
      · repeat (first | refine VIf.tt ?_ | refine VIf.ff ?_)
        refine VFact.mk ⟨?_, rfl⟩ trivial
        have h4 := of_decide_eq_true h4
        rw [bad (by simp only [rise1, Bool.and_eq_false_iff, Bool.or_eq_false_iff, decide_eq_false_iff_not, beq_eq_false_iff_ne]; omega)]
      · have h4 := of_decide_eq_false h4
        repeat (first | refine VIf.tt ?_ | refine VIf.ff ?_)
        refine VArith.ok (by first | omega | (simp only; omega)) (by first | omega | (simp only; omega)) ?_
        exact ⟨i + 1, ⟨hlt, stepI hz (by simp only [rise1, Bool.and_eq_true, Bool.or_eq_true, decide_eq_true_eq, beq_iff_eq]; omega)⟩, (by first | omega | (simp only; omega)), (Wk.mk' id (by repeat' constructor) (by repeat' constructor) (injOK_id _) rfl rfl rfl)⟩
    · have h3 := of_decide_eq_false h3
      repeat (first | refine VIf.tt ?_ | refine VIf.ff ?_)
      refine VArith.ok (by first | omega | (simp only; omega)) (by first | omega | (simp only; omega)) ?_
      exact ⟨i + 1, ⟨hlt, stepI hz (by simp only [rise1, Bool.and_eq_true, Bool.or_eq_true, decide_eq_true_eq, beq_iff_eq]; omega)⟩, (by first | omega | (simp only; omega)), (Wk.mk' id (by repeat' constructor) (by repeat' constructor) (injOK_id _) rfl rfl rfl)⟩
  · have : i = l.length := by have := ge_of_dec hge; omega
    subst this
    repeat (first | refine VIf.tt ?_ | refine VIf.ff ?_)
    refine VFact.mk ⟨?_, rfl⟩ trivial
    rw [risingB, all_true hz]
theorem risingR_fn (v : Value) (l : List Int) (lo hi : Int) (M : Mem) (hv : IntsV M v l) : FnP Try.prog 52 [v, .int .i64 lo, .int .i64 hi] M [.bool (risingB lo hi l)] := by
  obtain ⟨ad, c, rfl, hm, hrd⟩ := hv.get
  refine Fn.of_vc cxOK Try.func52 rfl rfl rfl ?_
  repeat (first | refine VIf.tt ?_ | refine VIf.ff ?_)
  refine VCode.loop cxOK Nat (fun i => ⟨[(0, .v (.slice ad l.length c)), (1, .v (.int .i64 lo)), (2, .v (.int .i64 hi)), (7, .v (.int .i64 i))], [], 0, M, 44, ⟨fun _ => none, none, fun _ => none⟩⟩)
    (fun i => i ≤ l.length ∧ ∀ j, j < i → rise1 lo hi l j = true) (fun i => l.length - i) 0 ⟨Nat.zero_le _, fun j hj => by omega⟩ (Wk.mk' id (by repeat' constructor) (by repeat' constructor) (injOK_id _) rfl rfl rfl) ?_
  rintro i ⟨hi', hz⟩ m
  repeat (first | refine VIf.tt ?_ | refine VIf.ff ?_)
  refine VIf.mk (fun hlt => ?_) (fun hge => ?_)
  · have hlt := lt_of_dec hlt
    obtain ⟨ad', rfl, _, hc1⟩ := hrd M (Mem.le_refl _) i hlt
    have bad : rise1 lo hi l i = false → risingB lo hi l = false := fun h => all_false hlt h
    repeat (first | refine VIf.tt ?_ | refine VIf.ff ?_)
    refine VDraw.go (by kernel_rfl) ?_
    repeat (first | refine VIf.tt ?_ | refine VIf.ff ?_)
    refine VIdx.mk ad' i rfl rfl hlt ?_
    repeat (first | refine VIf.tt ?_ | refine VIf.ff ?_)
    refine VRead.mk _ hc1 ?_
    repeat (first | refine VIf.tt ?_ | refine VIf.ff ?_)
    refine VIf.mk (fun h1 => ?_) (fun h1 => ?_)
    · repeat (first | refine VIf.tt ?_ | refine VIf.ff ?_)
      refine VFact.mk ⟨?_, rfl⟩ trivial
      have h1 := of_decide_eq_true h1
      rw [bad (by simp only [rise1, Bool.and_eq_false_iff, decide_eq_false_iff_not]; omega)]
    repeat (first | refine VIf.tt ?_ | refine VIf.ff ?_)
    refine VIdx.mk ad' i rfl rfl hlt ?_
    repeat (first | refine VIf.tt ?_ | refine VIf.ff ?_)
    refine VRead.mk _ hc1 ?_
    repeat (first | refine VIf.tt ?_ | refine VIf.ff ?_)
    refine VIf.mk (fun h2 => ?_) (fun h2 => ?_)
    · repeat (first | refine VIf.tt ?_ | refine VIf.ff ?_)
      refine VFact.mk ⟨?_, rfl⟩ trivial
      have h2 := of_decide_eq_true h2
      rw [bad (by simp only [rise1, Bool.and_eq_false_iff, decide_eq_false_iff_not]; omega)]
    have h1 := of_decide_eq_false h1
    have h2 := of_decide_eq_false h2
    repeat (first | refine VIf.tt ?_ | refine VIf.ff ?_)
    refine VIf.mk (fun h3 => ?_) (fun h3 => ?_)
    · have h3 := of_decide_eq_true h3
      obtain ⟨_, he, _, hc2⟩ := hrd M (Mem.le_refl _) (i - 1) (by omega)
      cases he
      repeat (first | refine VIf.tt ?_ | refine VIf.ff ?_)
      refine VIdx.mk ad' i rfl rfl hlt ?_
      repeat (first | refine VIf.tt ?_ | refine VIf.ff ?_)
      refine VRead.mk _ hc1 ?_
      repeat (first | refine VIf.tt ?_ | refine VIf.ff ?_)
      refine VArith.ok (by first | omega | (simp only; omega)) (by first | omega | (simp only; omega)) ?_
      repeat (first | refine VIf.tt ?_ | refine VIf.ff ?_)
      refine VIdx.mk ad' (i - 1) rfl (by omega) (by omega) ?_
      repeat (first | refine VIf.tt ?_ | refine VIf.ff ?_)
      refine VRead.mk _ hc2 ?_
      repeat (first | refine VIf.tt ?_ | refine VIf.ff ?_)
      refine VIf.mk (fun h4 => ?_) (fun h4 => ?_)
      · repeat (first | refine VIf.tt ?_ | refine VIf.ff ?_)
        refine VFact.mk ⟨?_, rfl⟩ trivial
        have h4 := of_decide_eq_true h4
        rw [bad (by simp only [rise1, Bool.and_eq_false_iff, Bool.or_eq_false_iff, decide_eq_false_iff_not, beq_eq_false_iff_ne]; omega)]
      · have h4 := of_decide_eq_false h4
        repeat (first | refine VIf.tt ?_ | refine VIf.ff ?_)
        refine VArith.ok (by first | omega | (simp only; omega)) (by first | omega | (simp only; omega)) ?_
        exact ⟨i + 1, ⟨hlt, stepI hz (by simp only [rise1, Bool.and_eq_true, Bool.or_eq_true, decide_eq_true_eq, beq_iff_eq]; omega)⟩, (by first | omega | (simp only; omega)), (Wk.mk' id (by repeat' constructor) (by repeat' constructor) (injOK_id _) rfl rfl rfl)⟩
    · have h3 := of_decide_eq_false h3
      repeat (first | refine VIf.tt ?_ | refine VIf.ff ?_)
      refine VArith.ok (by first | omega | (simp only; omega)) (by first | omega | (simp only; omega)) ?_
      exact ⟨i + 1, ⟨hlt, stepI hz (by simp only [rise1, Bool.and_eq_true, Bool.or_eq_true, decide_eq_true_eq, beq_iff_eq]; omega)⟩, (by first | omega | (simp only; omega)), (Wk.mk' id (by repeat' constructor) (by repeat' constructor) (injOK_id _) rfl rfl rfl)⟩
  · have : i = l.length := by have := ge_of_dec hge; omega
    subst this
    repeat (first | refine VIf.tt ?_ | refine VIf.ff ?_)
    refine VFact.mk ⟨?_, rfl⟩ trivial
    rw [risingB, all_true hz]

theorem lexB_drop : ∀ (a b : List Int) (i : Nat), i ≤ a.length → i ≤ b.length → (∀ j, j < i → gi a j = gi b j) → lexB (a.drop i) (b.drop i) = lexB a b
  | _, _, 0, _, _, _ => by simp
  | [], _, i + 1, h, _, _ => by simp at h
  | _ :: _, [], i + 1, _, h, _ => by simp at h
  | x :: a, y :: b, i + 1, h1, h2, h => by
    have h0 := h 0 (by omega)
    simp only [gi, List.getD_cons_zero] at h0
    subst h0
    rw [List.drop_succ_cons, List.drop_succ_cons, lexB_drop a b i (by simpa using h1) (by simpa using h2) (fun j hj => by have := h (j + 1) (by omega); simpa [gi] using this)]
    simp [lexB, (cmpI_sgn x x).2]
theorem drop_gi {l : List Int} {i : Nat} (h : i < l.length) : l.drop i = gi l i :: l.drop (i + 1) := by
  rw [List.drop_eq_getElem_cons h]; simp [gi, h]
theorem SCompare_fn (v w : Value) (a b : List Int) (M : Mem) (hv : IntsV M v a) (hw : IntsV M w b) : FnP Try.prog 116 [v, w] M [.int .i64 (lexB a b)] := by
  obtain ⟨ad, c, rfl, hm, hrd⟩ := hv.get
  obtain ⟨bd, d, rfl, hm', hrd'⟩ := hw.get
  refine Fn.of_vc cxOK Try.func116 rfl rfl rfl ?_
  repeat (first | refine VIf.tt ?_ | refine VIf.ff ?_)
  refine VCode.loop cxOK Nat (fun i => ⟨[(0, .v (.slice ad a.length c)), (1, .v (.slice bd b.length d)), (9, .v (.slice ad a.length c)), (10, .v (.int .i64 a.length)), (11, .v (.int .i64 i))], [], 0, M, 36, ⟨fun _ => none, none, fun _ => none⟩⟩)
    (fun i => i ≤ a.length ∧ i ≤ b.length ∧ ∀ j, j < i → gi a j = gi b j) (fun i => a.length - i) 0 ⟨Nat.zero_le _, Nat.zero_le _, fun j hj => by omega⟩ (Wk.mk' id (by repeat' constructor) (by repeat' constructor) (injOK_id _) rfl rfl rfl) ?_
  rintro i ⟨hi, hi', hz⟩ m
  have hl := lexB_drop a b i hi hi' hz
  repeat (first | refine VIf.tt ?_ | refine VIf.ff ?_)
  refine VIf.mk (fun hlt => ?_) (fun hge => ?_)
  · have hlt := lt_of_dec hlt
    obtain ⟨ad', rfl, _, hc1⟩ := hrd M (Mem.le_refl _) i hlt
    rw [drop_gi hlt] at hl
    repeat (first | refine VIf.tt ?_ | refine VIf.ff ?_)
    refine VIdx.mk ad' i rfl rfl hlt ?_
    repeat (first | refine VIf.tt ?_ | refine VIf.ff ?_)
    refine VRead.mk _ hc1 ?_
    repeat (first | refine VIf.tt ?_ | refine VIf.ff ?_)
    refine VIf.mk (fun h1 => ?_) (fun h1 => ?_)
    · repeat (first | refine VIf.tt ?_ | refine VIf.ff ?_)
      refine VFact.mk ⟨?_, rfl⟩ trivial
      have h1 := of_decide_eq_true h1
      have : b.drop i = [] := List.drop_eq_nil_of_le (by omega)
      rw [this] at hl
      rw [← hl]; rfl
    · have h1 := of_decide_eq_false h1
      have hlb : i < b.length := by omega
      obtain ⟨bd', rfl, _, hc2⟩ := hrd' M (Mem.le_refl _) i hlb
      rw [drop_gi hlb] at hl
      repeat (first | refine VIf.tt ?_ | refine VIf.ff ?_)
      refine VIdx.mk bd' i rfl rfl hlb ?_
      repeat (first | refine VIf.tt ?_ | refine VIf.ff ?_)
      refine VRead.mk _ hc2 ?_
      repeat (first | refine VIf.tt ?_ | refine VIf.ff ?_)
      refine VFn.p (Compare_fn _ _ _) ?_
      repeat (first | refine VIf.tt ?_ | refine VIf.ff ?_)
      refine VIf.mk (fun h2 => ?_) (fun h2 => ?_)
      · repeat (first | refine VIf.tt ?_ | refine VIf.ff ?_)
        refine VFact.mk ⟨?_, rfl⟩ trivial
        have h2 := bne_iff_ne.1 h2
        rw [← hl, lexB, if_pos h2]
      · have h2 := bne_eq_false_iff_eq.1 h2
        repeat (first | refine VIf.tt ?_ | refine VIf.ff ?_)
        refine VArith.ok (by first | omega | (simp only; omega)) (by first | omega | (simp only; omega)) ?_
        refine ⟨i + 1, ⟨hlt, hlb, fun j hj => ?_⟩, (by first | omega | (simp only; omega)), (Wk.mk' id (by repeat' constructor) (by repeat' constructor) (injOK_id _) rfl rfl rfl)⟩
        by_cases e : j = i
        · subst e; exact (cmpI_sgn _ _).2.1 h2
        · exact hz j (by omega)
  · have : i = a.length := by have := ge_of_dec hge; omega
    subst this
    rw [List.drop_length] at hl
    repeat (first | refine VIf.tt ?_ | refine VIf.ff ?_)
    refine VIf.mk (fun h1 => ?_) (fun h1 => ?_)
    · repeat (first | refine VIf.tt ?_ | refine VIf.ff ?_)
      refine VFact.mk ⟨?_, rfl⟩ trivial
      have h1 := lt_of_dec h1
      rw [drop_gi h1] at hl
      rw [← hl]; rfl
    · repeat (first | refine VIf.tt ?_ | refine VIf.ff ?_)
      refine VFact.mk ⟨?_, rfl⟩ trivial
      have h1 := ge_of_dec h1
      have : b.drop a.length = [] := List.drop_eq_nil_of_le (by omega)
      rw [this] at hl
      rw [← hl]; rfl
theorem lists_fn (v w : Value) (a b : List Int) (M : Mem) (hv : IntsV M v a) (hw : IntsV M w b) : V.Fn Try.prog 106 [v, w] M fun rs _ => rs = [.int .i64 (listsC a b)] := by
  obtain ⟨ad, c, rfl, hm, hrd⟩ := hv.get
  obtain ⟨bd, d, rfl, hm', hrd'⟩ := hw.get
  refine Fn.of_vc cxOK Try.func106 rfl rfl rfl ?_
  repeat (first | refine VIf.tt ?_ | refine VIf.ff ?_)
  refine VFn.p (Compare_fn _ _ _) ?_
  repeat (first | refine VIf.tt ?_ | refine VIf.ff ?_)
  refine VFn.p (SCompare_fn _ _ a b _ hv hw) ?_
  repeat (first | refine VIf.tt ?_ | refine VIf.ff ?_)
  refine VFz.mk fun x B M' hle hx => ?_
  repeat (first | refine VIf.tt ?_ | refine VIf.ff ?_)
  refine VFn.p (Or_fn x [cmpI a.length b.length, lexB a b] _ hx) ?_
  repeat (first | refine VIf.tt ?_ | refine VIf.ff ?_)
  refine VFact.mk ?_ trivial
  simp only [orL, listsC]
  by_cases h : cmpI (a.length : Int) b.length = 0 <;> by_cases h' : lexB a b = 0 <;> simp [h, h']
end Go.Proofs.Ytaobaeiohjgdcaa
