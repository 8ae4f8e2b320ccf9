/- Contracts: regions. -/
import Derived.Test.YtaobaeiohjgdcaaC10
namespace Go.Proofs.Ytaobaeiohjgdcaa
open Go Go.V Go.RowKit
def gr (r : List (List Pt)) (i : Nat) : List Pt := r.getD i []
theorem any_getD {α : Type} (d : α) (g : α → Bool) (l : List α) {i : Nat} (hi : i < l.length) (h : g (l.getD i d) = true) : l.any g = true := by
  rw [List.any_eq_true]
  exact ⟨_, List.getElem_mem hi, by simpa [hi] using h⟩
theorem any_none {α : Type} (d : α) (g : α → Bool) (l : List α) (h : ∀ i, i < l.length → g (l.getD i d) = false) : l.any g = false := by
  rw [List.any_eq_false]
  intro x hx
  obtain ⟨i, hi, rfl⟩ := List.getElem_of_mem hx
  have := h i hi
  simp [hi] at this
  simp [this]
theorem all_getD {α : Type} (d : α) (g : α → Bool) (l : List α) (h : ∀ i, i < l.length → g (l.getD i d) = true) : l.all g = true := by
  rw [List.all_eq_true]
  intro x hx
  obtain ⟨i, hi, rfl⟩ := List.getElem_of_mem hx
  have := h i hi
  simpa [hi] using this
theorem all_getD' {α : Type} (d : α) (g : α → Bool) (l : List α) {i : Nat} (hi : i < l.length) (h : g (l.getD i d) = false) : l.all g = false := by
  cases hb : l.all g with
  | false => rfl
  | true =>
    have := List.all_eq_true.1 hb _ (List.getElem_mem hi)
    simp [hi] at h
    rw [h] at this; cases this
theorem all_at {α : Type} (d : α) {g : α → Bool} {l : List α} (h : l.all g = true) {i : Nat} (hi : i < l.length) : g (l.getD i d) = true := by
  have := List.all_eq_true.1 h _ (List.getElem_mem hi)
  simpa [hi] using this
theorem IndexR0_fn (v : Value) (r : List (List Pt)) (fid : Nat) (g : List Pt → Bool) (M : Mem) (hv : RegV M v r) (hg : ∀ i, i < r.length → ∀ M', M.le M' → ∀ w, Pts M' w (gr r i) → i64P (gr r i) → V.Fn Try.prog fid [w] M' fun rs _ => rs = [.bool (g (gr r i))]) :
    V.Fn Try.prog 93 [v, .func (.func fid) #[] #[]] M fun rs _ => ∃ k : Int, rs = [.int .i64 k] ∧ (0 ≤ k ↔ r.any g = true) := by
  obtain ⟨ad, c, rfl, hm, hrd⟩ := hv.get
  refine Fn.of_vc cxOK Try.func93 rfl rfl rfl ?_
  repeat (first | refine VIf.tt ?_ | refine VIf.ff ?_)
  refine VCode.loop cxOK (Nat × Mem) (fun s => ⟨[(0, .v (.slice ad r.length c)), (1, .v (.func (.func fid) #[] #[])), (7, .v (.int .i64 r.length)), (8, .v (.int .i64 s.1))], [], 0, s.2, 19, ⟨fun _ => none, none, fun _ => none⟩⟩)
    (fun s => M.le s.2 ∧ s.1 ≤ r.length ∧ ∀ j, j < s.1 → g (gr r j) = false) (fun s => r.length - s.1) (0, M) ⟨Mem.le_refl _, Nat.zero_le _, fun j hj => by simp at hj⟩ (Wk.mk' id (by repeat' constructor) (by repeat' constructor) (injOK_id _) rfl rfl rfl) ?_
  rintro ⟨i, M1⟩ ⟨hM1, hi, hz⟩ m
  have hM1 : M.le M1 := hM1
  repeat (first | refine VIf.tt ?_ | refine VIf.ff ?_)
  refine VIf.mk (fun hlt => ?_) (fun hge => ?_)
  · have hlt : i < r.length := lt_of_dec hlt
    obtain ⟨ad', w, rfl, hp, hp64, hc1⟩ := hrd M1 hM1 i hlt
    repeat (first | refine VIf.tt ?_ | refine VIf.ff ?_)
    refine VIdx.mk ad' i rfl rfl hlt ?_
    repeat (first | refine VIf.tt ?_ | refine VIf.ff ?_)
    refine VRead.mk _ hc1 ?_
    repeat (first | refine VIf.tt ?_ | refine VIf.ff ?_)
    refine VFn.mk _ (hg i hlt M1 hM1 w hp hp64) ?_
    rintro rs M2 hM2 rfl
    repeat (first | refine VIf.tt ?_ | refine VIf.ff ?_)
    refine VIf.mk (fun hc => ?_) (fun hc => ?_)
    · repeat (first | refine VIf.tt ?_ | refine VIf.ff ?_)
      refine VFact.mk ⟨i, rfl, ?_⟩ trivial
      have := any_getD [] g r hlt hc
      simp [this]
    · repeat (first | refine VIf.tt ?_ | refine VIf.ff ?_)
      refine VArith.ok (by first | omega | (simp only; omega)) (by first | omega | (simp only; omega)) ?_
      refine ⟨(i + 1, M2), ⟨hM1.trans hM2, hlt, fun j hj => ?_⟩, (by first | omega | (simp only; omega)), (Wk.mk' id (by repeat' constructor) (by repeat' constructor) (injOK_id _) rfl rfl rfl)⟩
      by_cases e : j = i
      · subst e; exact hc
      · exact hz j (by simp only at hj ⊢; omega)
  · have : i = r.length := by have := ge_of_dec hge; have hi : i ≤ r.length := hi; omega
    subst this
    repeat (first | refine VIf.tt ?_ | refine VIf.ff ?_)
    refine VFact.mk ⟨-1, rfl, ?_⟩ trivial
    have := any_none [] g r hz
    simp [this]
theorem ContainsR0_fn (v : Value) (r : List (List Pt)) (fid : Nat) (g : List Pt → Bool) (M : Mem) (hv : RegV M v r) (hg : ∀ i, i < r.length → ∀ M', M.le M' → ∀ w, Pts M' w (gr r i) → i64P (gr r i) → V.Fn Try.prog fid [w] M' fun rs _ => rs = [.bool (g (gr r i))]) :
    V.Fn Try.prog 61 [v, .func (.func fid) #[] #[]] M fun rs _ => rs = [.bool (r.any g)] := by
  obtain ⟨ad, c, rfl, hm, hrd⟩ := hv.get
  refine Fn.of_vc cxOK Try.func61 rfl rfl rfl ?_
  repeat (first | refine VIf.tt ?_ | refine VIf.ff ?_)
  refine VFn.mk _ (IndexR0_fn _ r fid g M hv hg) ?_
  rintro rs M1 hM1 ⟨k, rfl, hk⟩
  repeat (first | refine VIf.tt ?_ | refine VIf.ff ?_)
  refine VFact.mk (bool1 ?_) trivial
  rw [← hk]; simp
theorem IndexR1_fn (v : Value) (r : List (List Pt)) (fid : Nat) (c0 : Value) (g : List Pt → Bool) (M : Mem) (hv : RegV M v r) (hg : ∀ i, i < r.length → ∀ M', M.le M' → ∀ w, Pts M' w (gr r i) → i64P (gr r i) → V.Fn Try.prog fid [w, c0] M' fun rs _ => rs = [.bool (g (gr r i))]) :
    V.Fn Try.prog 93 [v, .func (.func fid) #[] #[c0]] M fun rs _ => ∃ k : Int, rs = [.int .i64 k] ∧ (0 ≤ k ↔ r.any g = true) := by
  obtain ⟨ad, c, rfl, hm, hrd⟩ := hv.get
  refine Fn.of_vc cxOK Try.func93 rfl rfl rfl ?_
  repeat (first | refine VIf.tt ?_ | refine VIf.ff ?_)
  refine VCode.loop cxOK (Nat × Mem) (fun s => ⟨[(0, .v (.slice ad r.length c)), (1, .v (.func (.func fid) #[] #[c0])), (7, .v (.int .i64 r.length)), (8, .v (.int .i64 s.1))], [], 0, s.2, 19, ⟨fun _ => none, none, fun _ => none⟩⟩)
    (fun s => M.le s.2 ∧ s.1 ≤ r.length ∧ ∀ j, j < s.1 → g (gr r j) = false) (fun s => r.length - s.1) (0, M) ⟨Mem.le_refl _, Nat.zero_le _, fun j hj => by simp at hj⟩ (Wk.mk' id (by repeat' constructor) (by repeat' constructor) (injOK_id _) rfl rfl rfl) ?_
  rintro ⟨i, M1⟩ ⟨hM1, hi, hz⟩ m
  have hM1 : M.le M1 := hM1
  repeat (first | refine VIf.tt ?_ | refine VIf.ff ?_)
  refine VIf.mk (fun hlt => ?_) (fun hge => ?_)
  · have hlt : i < r.length := lt_of_dec hlt
    obtain ⟨ad', w, rfl, hp, hp64, hc1⟩ := hrd M1 hM1 i hlt
    repeat (first | refine VIf.tt ?_ | refine VIf.ff ?_)
    refine VIdx.mk ad' i rfl rfl hlt ?_
    repeat (first | refine VIf.tt ?_ | refine VIf.ff ?_)
    refine VRead.mk _ hc1 ?_
    repeat (first | refine VIf.tt ?_ | refine VIf.ff ?_)
    refine VFn.mk _ (hg i hlt M1 hM1 w hp hp64) ?_
    rintro rs M2 hM2 rfl
    repeat (first | refine VIf.tt ?_ | refine VIf.ff ?_)
    refine VIf.mk (fun hc => ?_) (fun hc => ?_)
    · repeat (first | refine VIf.tt ?_ | refine VIf.ff ?_)
      refine VFact.mk ⟨i, rfl, ?_⟩ trivial
      have := any_getD [] g r hlt hc
      simp [this]
    · repeat (first | refine VIf.tt ?_ | refine VIf.ff ?_)
      refine VArith.ok (by first | omega | (simp only; omega)) (by first | omega | (simp only; omega)) ?_
      refine ⟨(i + 1, M2), ⟨hM1.trans hM2, hlt, fun j hj => ?_⟩, (by first | omega | (simp only; omega)), (Wk.mk' id (by repeat' constructor) (by repeat' constructor) (injOK_id _) rfl rfl rfl)⟩
      by_cases e : j = i
      · subst e; exact hc
      · exact hz j (by simp only at hj ⊢; omega)
  · have : i = r.length := by have := ge_of_dec hge; have hi : i ≤ r.length := hi; omega
    subst this
    repeat (first | refine VIf.tt ?_ | refine VIf.ff ?_)
    refine VFact.mk ⟨-1, rfl, ?_⟩ trivial
    have := any_none [] g r hz
    simp [this]
theorem ContainsR1_fn (v : Value) (r : List (List Pt)) (fid : Nat) (c0 : Value) (g : List Pt → Bool) (M : Mem) (hv : RegV M v r) (hg : ∀ i, i < r.length → ∀ M', M.le M' → ∀ w, Pts M' w (gr r i) → i64P (gr r i) → V.Fn Try.prog fid [w, c0] M' fun rs _ => rs = [.bool (g (gr r i))]) :
    V.Fn Try.prog 61 [v, .func (.func fid) #[] #[c0]] M fun rs _ => rs = [.bool (r.any g)] := by
  obtain ⟨ad, c, rfl, hm, hrd⟩ := hv.get
  refine Fn.of_vc cxOK Try.func61 rfl rfl rfl ?_
  repeat (first | refine VIf.tt ?_ | refine VIf.ff ?_)
  refine VFn.mk _ (IndexR1_fn _ r fid c0 g M hv hg) ?_
  rintro rs M1 hM1 ⟨k, rfl, hk⟩
  repeat (first | refine VIf.tt ?_ | refine VIf.ff ?_)
  refine VFact.mk (bool1 ?_) trivial
  rw [← hk]; simp
theorem invalid1_fn (w : Value) (ps : List Pt) (M : Mem) (hv : Pts M w ps) (hi : i64P ps) : V.Fn Try.prog 112 [w] M fun rs _ => rs = [.bool (!validB ps)] := by
  refine Fn.of_vc cxOK Try.func112 rfl rfl rfl ?_
  repeat (first | refine VIf.tt ?_ | refine VIf.ff ?_)
  refine VFn.mk _ (Valid_fn w ps M hv hi) ?_
  rintro rs M1 hM1 rfl
  repeat (first | refine VIf.tt ?_ | refine VIf.ff ?_)
  exact VFact.mk rfl trivial
theorem invalid_fn (v : Value) (r : List (List Pt)) (M : Mem) (hv : RegV M v r) : V.Fn Try.prog 92 [v] M fun rs _ => rs = [.bool (r.any fun p => !validB p)] := by
  obtain ⟨ad, c, rfl⟩ := hv.shape
  refine Fn.of_vc cxOK Try.func92 rfl rfl rfl ?_
  repeat (first | refine VIf.tt ?_ | refine VIf.ff ?_)
  refine VFn.mk _ (ContainsR0_fn _ r _ (fun p => !validB p) M hv fun i _ M' _ w hw h64 => invalid1_fn w _ M' hw h64) ?_
  rintro rs M1 hM1 rfl
  repeat (first | refine VIf.tt ?_ | refine VIf.ff ?_)
  exact VFact.mk rfl trivial
theorem not_any {α : Type} (g : α → Bool) : ∀ l : List α, (!l.any fun x => !g x) = l.all g
  | [] => rfl
  | x :: l => by
    have := not_any g l
    simp only [List.any_cons, List.all_cons, Bool.not_or, Bool.not_not, this]
theorem regValid_fn (v : Value) (r : List (List Pt)) (M : Mem) (hv : RegV M v r) : V.Fn Try.prog 58 [v] M fun rs _ => rs = [.bool (regionB r)] := by
  obtain ⟨ad, c, rfl⟩ := hv.shape
  refine Fn.of_vc cxOK Try.func58 rfl rfl rfl ?_
  repeat (first | refine VIf.tt ?_ | refine VIf.ff ?_)
  refine VIf.mk (fun h1 => ?_) (fun h1 => ?_)
  · repeat (first | refine VIf.tt ?_ | refine VIf.ff ?_)
    refine VFn.mk _ (invalid_fn _ r M hv) ?_
    rintro rs M1 hM1 rfl
    repeat (first | refine VIf.tt ?_ | refine VIf.ff ?_)
    refine VFact.mk ?_ trivial
    have h1 : r.length ≤ 32 := by have := of_decide_eq_true h1; omega
    rw [not_any]
    simp [regionB, h1]
  · repeat (first | refine VIf.tt ?_ | refine VIf.ff ?_)
    refine VFact.mk ?_ trivial
    have h1 : ¬ r.length ≤ 32 := by have := of_decide_eq_false h1; omega
    simp [regionB, h1]
theorem polygonsR_fn (v : Value) (r : List (List Pt)) (M : Mem) (hv : RegV M v r) : FnP Try.prog 87 [v] M [.bool (r.all validB)] := by
  obtain ⟨ad, c, rfl, hm, hrd⟩ := hv.get
  refine Fn.of_vc cxOK Try.func87 rfl rfl rfl ?_
  repeat (first | refine VIf.tt ?_ | refine VIf.ff ?_)
  refine VCode.loop cxOK Nat (fun i => ⟨[(0, .v (.slice ad r.length c)), (3, .v (.int .i64 i))], [], 0, M, 18, ⟨fun _ => none, none, fun _ => none⟩⟩)
    (fun i => i ≤ r.length ∧ ∀ j, j < i → validB (gr r j) = true) (fun i => r.length - i) 0 ⟨Nat.zero_le _, fun j hj => by omega⟩ (Wk.mk' id (by repeat' constructor) (by repeat' constructor) (injOK_id _) rfl rfl rfl) ?_
  rintro i ⟨hi, hz⟩ m
  repeat (first | refine VIf.tt ?_ | refine VIf.ff ?_)
  refine VIf.mk (fun hlt => ?_) (fun hge => ?_)
  · have hlt : i < r.length := lt_of_dec hlt
    obtain ⟨ad', w, rfl, hp, hp64, hc1⟩ := hrd M (Mem.le_refl _) i hlt
    repeat (first | refine VIf.tt ?_ | refine VIf.ff ?_)
    refine VIdx.mk ad' i rfl rfl hlt ?_
    repeat (first | refine VIf.tt ?_ | refine VIf.ff ?_)
    refine VRead.mk _ hc1 ?_
    repeat (first | refine VIf.tt ?_ | refine VIf.ff ?_)
    refine VFn.p (ValidR_fn w _ M hp hp64) ?_
    rw [validR_eq]
    repeat (first | refine VIf.tt ?_ | refine VIf.ff ?_)
    refine VIf.mk (fun hc => ?_) (fun hc => ?_)
    · repeat (first | refine VIf.tt ?_ | refine VIf.ff ?_)
      refine VFact.mk ⟨?_, rfl⟩ trivial
      rw [all_getD' [] validB r hlt (bn1 hc)]
    · repeat (first | refine VIf.tt ?_ | refine VIf.ff ?_)
      refine VArith.ok (by first | omega | (simp only; omega)) (by first | omega | (simp only; omega)) ?_
      exact ⟨i + 1, ⟨hlt, stepI hz (bn2 hc)⟩, (by first | omega | (simp only; omega)), (Wk.mk' id (by repeat' constructor) (by repeat' constructor) (injOK_id _) rfl rfl rfl)⟩
  · have : i = r.length := by have := ge_of_dec hge; omega
    subst this
    repeat (first | refine VIf.tt ?_ | refine VIf.ff ?_)
    refine VFact.mk ⟨?_, rfl⟩ trivial
    rw [all_getD [] validB r hz]
theorem regValidR_fn (v : Value) (r : List (List Pt)) (M : Mem) (hv : RegV M v r) : FnP Try.prog 51 [v] M [.bool (regionB r)] := by
  obtain ⟨ad, c, rfl⟩ := hv.shape
  refine Fn.of_vc cxOK Try.func51 rfl rfl rfl ?_
  repeat (first | refine VIf.tt ?_ | refine VIf.ff ?_)
  refine VIf.mk (fun h1 => ?_) (fun h1 => ?_)
  · repeat (first | refine VIf.tt ?_ | refine VIf.ff ?_)
    refine VFn.p (polygonsR_fn _ r M hv) ?_
    repeat (first | refine VIf.tt ?_ | refine VIf.ff ?_)
    refine VFact.mk ⟨?_, rfl⟩ trivial
    have h1 : r.length ≤ 32 := by have := of_decide_eq_true h1; omega
    simp [regionB, h1]
  · repeat (first | refine VIf.tt ?_ | refine VIf.ff ?_)
    refine VFact.mk ⟨?_, rfl⟩ trivial
    have h1 : ¬ r.length ≤ 32 := by have := of_decide_eq_false h1; omega
    simp [regionB, h1]
end Go.Proofs.Ytaobaeiohjgdcaa
