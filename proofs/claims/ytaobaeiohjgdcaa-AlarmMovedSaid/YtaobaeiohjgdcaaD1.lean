/- Data in memory: lists of integers, polygons, regions, cases, beliefs. -/
import Derived.Test.YtaobaeiohjgdcaaC5
namespace Go.Proofs.Ytaobaeiohjgdcaa
open Go Go.V Go.RowKit
/-- A slice whose elements say the elements of a list. -/
def Arr {α : Type} (D : Mem → α → List Value → Prop) (M : Mem) (k : Nat) (v : Value) (l : List α) : Prop :=
  ∃ rows : List (List Value), rows.length = l.length ∧ (∀ r ∈ rows, r.length = k) ∧ SlAt M k v l.length rows.flatten ∧ ∀ (i : Nat) (x : α) (r : List Value), l[i]? = some x → rows[i]? = some r → D M x r
theorem Arr.le {α : Type} {D : Mem → α → List Value → Prop} (hD : ∀ M M' x r, M.le M' → D M x r → D M' x r) {M M' : Mem} {k : Nat} {v : Value} {l : List α} (h : Arr D M k v l) (hM : M.le M') : Arr D M' k v l :=
  let ⟨rows, h1, h2, h3, h4⟩ := h
  ⟨rows, h1, h2, h3.le hM, fun i x r hx hr => hD _ _ _ _ hM (h4 i x r hx hr)⟩
theorem flat_get {k : Nat} : ∀ (rows : List (List Value)) (i : Nat) (r : List Value), (∀ r ∈ rows, r.length = k) → rows[i]? = some r → ∀ j x, r[j]? = some x → rows.flatten[i * k + j]? = some x
  | [], i, r, _, h, _, _, _ => by simp at h
  | r0 :: rows, 0, r, hk, h, j, x, hx => by
    simp at h; subst h
    rw [List.flatten_cons, Nat.zero_mul, Nat.zero_add, List.getElem?_append_left (List.getElem?_eq_some_iff.1 hx).1]
    exact hx
  | r0 :: rows, i + 1, r, hk, h, j, x, hx => by
    have h0 := hk r0 (List.mem_cons_self)
    rw [List.flatten_cons, List.getElem?_append_right (by rw [h0, Nat.add_mul]; omega)]
    rw [show (i + 1) * k + j - r0.length = i * k + j by rw [h0, Nat.add_mul]; omega]
    exact flat_get rows i r (fun r hr => hk r (List.mem_cons_of_mem _ hr)) (by simpa using h) j x hx
/-- What a slice's elements are. -/
theorem Arr.get {α : Type} {D : Mem → α → List Value → Prop} {M : Mem} {k : Nat} {v : Value} {l : List α} (h : Arr D M k v l) :
    ∃ ad c, v = .slice ad l.length c ∧ l.length ≤ 9223372036854775807 ∧ ∀ i x, l[i]? = some x → ∃ ad' r, ad = some ad' ∧ r.length = k ∧ D M x r ∧ ∀ M', M.le M' → ∀ j y, r[j]? = some y → M'.cell ((ad'.add (i * k)).add j) = some y := by
  obtain ⟨rows, h1, h2, ⟨ad, c, rfl, hc, hm, hl, ho, hcell⟩, h4⟩ := h
  refine ⟨ad, c, rfl, ?_, fun i x hx => ?_⟩
  · unfold maxLen at hm; omega
  have hi := (List.getElem?_eq_some_iff.1 hx).1
  obtain ⟨ad', rfl, hrd⟩ := hcell (by omega)
  have hr : rows[i]? = some (rows[i]'(by omega)) := List.getElem?_eq_getElem (by omega)
  refine ⟨ad', _, rfl, h2 _ (List.getElem_mem _), h4 i x _ hx hr, fun M' hM j y hy => ?_⟩
  rw [Addr.add_add]
  exact Mem.cell_le hM (hrd _ _ (flat_get rows i _ h2 hr j y hy))
theorem add0 (a : Addr) : a.add 0 = a := by simp [Addr.add]
def IntD (_ : Mem) (n : Int) (r : List Value) : Prop := r = [.int .i64 n] ∧ i64r n
def PolyD (M : Mem) (ps : List Pt) (r : List Value) : Prop := ∃ v, r = [v] ∧ Pts M v ps ∧ i64P ps
def IntsV (M : Mem) (v : Value) (l : List Int) : Prop := Arr IntD M 1 v l
def RegV (M : Mem) (v : Value) (l : List (List Pt)) : Prop := Arr PolyD M 1 v l
def CaseD (M : Mem) (c : CaseS) (r : List Value) : Prop := ∃ a b s, r = [a, b, s] ∧ IntsV M a c.sn ∧ IntsV M b c.cl ∧ RegV M s c.st
def CasV (M : Mem) (v : Value) (l : List CaseS) : Prop := Arr CaseD M 3 v l
def BelD (M : Mem) (b : BelS) (r : List Value) : Prop := ∃ v, r = [.int .i64 b.t, v] ∧ i64r b.t ∧ CasV M v b.cs
def BelsV (M : Mem) (v : Value) (l : List BelS) : Prop := Arr BelD M 2 v l
theorem IntsV.le {M M' : Mem} {v : Value} {l : List Int} (h : IntsV M v l) (hM : M.le M') : IntsV M' v l := Arr.le (fun _ _ _ _ _ h => h) h hM
theorem RegV.le {M M' : Mem} {v : Value} {l : List (List Pt)} (h : RegV M v l) (hM : M.le M') : RegV M' v l :=
  Arr.le (fun _ _ _ _ hM ⟨v, h1, h2, h3⟩ => ⟨v, h1, SlAt.le hM h2, h3⟩) h hM
theorem CasV.le {M M' : Mem} {v : Value} {l : List CaseS} (h : CasV M v l) (hM : M.le M') : CasV M' v l :=
  Arr.le (fun _ _ _ _ hM ⟨a, b, s, h1, h2, h3, h4⟩ => ⟨a, b, s, h1, h2.le hM, h3.le hM, h4.le hM⟩) h hM
theorem BelsV.le {M M' : Mem} {v : Value} {l : List BelS} (h : BelsV M v l) (hM : M.le M') : BelsV M' v l :=
  Arr.le (fun _ _ _ _ hM ⟨v, h1, h2, h3⟩ => ⟨v, h1, h2, h3.le hM⟩) h hM
theorem getD_get {α : Type} {l : List α} {i : Nat} (d : α) (h : i < l.length) : l[i]? = some (l.getD i d) := by simp [h]
/-- A slice of integers. -/
theorem IntsV.get {M : Mem} {v : Value} {l : List Int} (h : IntsV M v l) : ∃ ad c, v = .slice ad l.length c ∧ l.length ≤ 9223372036854775807 ∧ ∀ M', M.le M' → ∀ i, i < l.length → ∃ ad', ad = some ad' ∧ i64r (gi l i) ∧ M'.cell (ad'.add (i * 1)) = some (.int .i64 (gi l i)) := by
  obtain ⟨ad, c, h1, h2, h3⟩ := Arr.get h
  refine ⟨ad, c, h1, h2, fun M' hM i hi => ?_⟩
  obtain ⟨ad', r, h4, _, ⟨rfl, h5⟩, h6⟩ := h3 i _ (getD_get 0 hi)
  exact ⟨ad', h4, h5, by have := h6 M' hM 0 _ rfl; rw [add0] at this; exact this⟩
theorem RegV.get {M : Mem} {v : Value} {l : List (List Pt)} (h : RegV M v l) : ∃ ad c, v = .slice ad l.length c ∧ l.length ≤ 9223372036854775807 ∧ ∀ M', M.le M' → ∀ i, i < l.length → ∃ ad' w, ad = some ad' ∧ Pts M' w (l.getD i []) ∧ i64P (l.getD i []) ∧ M'.cell (ad'.add (i * 1)) = some w := by
  obtain ⟨ad, c, h1, h2, h3⟩ := Arr.get h
  refine ⟨ad, c, h1, h2, fun M' hM i hi => ?_⟩
  obtain ⟨ad', r, h4, _, ⟨w, rfl, h5, h5'⟩, h6⟩ := h3 i _ (getD_get [] hi)
  exact ⟨ad', w, h4, SlAt.le hM h5, h5', by have := h6 M' hM 0 _ rfl; rw [add0] at this; exact this⟩
theorem CasV.get {M : Mem} {v : Value} {l : List CaseS} (h : CasV M v l) : ∃ ad c, v = .slice ad l.length c ∧ l.length ≤ 9223372036854775807 ∧ ∀ M', M.le M' → ∀ i, i < l.length → ∃ ad' a b s, ad = some ad' ∧ IntsV M' a (gc l i).sn ∧ IntsV M' b (gc l i).cl ∧ RegV M' s (gc l i).st ∧ ∀ j y, [a, b, s][j]? = some y → M'.cell ((ad'.add (i * 3)).add j) = some y := by
  obtain ⟨ad, c, h1, h2, h3⟩ := Arr.get h
  refine ⟨ad, c, h1, h2, fun M' hM i hi => ?_⟩
  obtain ⟨ad', r, h4, _, ⟨a, b, s, rfl, h5, h5', h5''⟩, h6⟩ := h3 i _ (getD_get ⟨[], [], []⟩ hi)
  exact ⟨ad', a, b, s, h4, h5.le hM, h5'.le hM, h5''.le hM, h6 M' hM⟩
theorem BelsV.get {M : Mem} {v : Value} {l : List BelS} (h : BelsV M v l) : ∃ ad c, v = .slice ad l.length c ∧ l.length ≤ 9223372036854775807 ∧ ∀ M', M.le M' → ∀ i, i < l.length → ∃ ad' w, ad = some ad' ∧ i64r (gb l i).t ∧ CasV M' w (gb l i).cs ∧ ∀ j y, [.int .i64 (gb l i).t, w][j]? = some y → M'.cell ((ad'.add (i * 2)).add j) = some y := by
  obtain ⟨ad, c, h1, h2, h3⟩ := Arr.get h
  refine ⟨ad, c, h1, h2, fun M' hM i hi => ?_⟩
  obtain ⟨ad', r, h4, _, ⟨w, rfl, h5, h5'⟩, h6⟩ := h3 i _ (getD_get ⟨0, []⟩ hi)
  exact ⟨ad', w, h4, h5, h5'.le hM, h6 M' hM⟩
theorem RegV.shape {M : Mem} {v : Value} {l : List (List Pt)} (h : RegV M v l) : ∃ ad c, v = .slice ad l.length c := let ⟨ad, c, he, _⟩ := h.get; ⟨ad, c, he⟩
end Go.Proofs.Ytaobaeiohjgdcaa
