/- The bridge from a law's arguments to the data in memory. -/
import Derived.Test.YtaobaeiohjgdcaaC17
import Derived.Test.YtaobaeiohjgdcaaRows
import Derived.ProofKit
import Derived.OpenShut
namespace Go.Proofs.Ytaobaeiohjgdcaa
open Go Go.V Go.RowKit
section
variable {H : Type} {enc : TypeId × Value → H} {P : Program} {w : World} {sp : Nat → Bool} {held : Bool}
/-- All that is in memory. -/
def memOf (w : World) : Mem := fun b => w.heap[b]?
theorem memOf_ok (w : World) : (memOf w).ok w := fun _ _ h => h
theorem memOf_cell {w : World} {a : Addr} {v : Value} (h : w.cell? a = some v) : (memOf w).cell a = some v := by
  unfold Mem.cell memOf
  unfold World.cell? at h
  cases hb : w.heap[a.block]? with
  | none => rw [hb] at h; cases h
  | some o => rw [hb] at h; cases o <;> first | exact h | cases h
/-- What a type's cells say. -/
def Opens {α : Type} (enc : TypeId × Value → H) (P : Program) (w : World) (sp : Nat → Bool) (held : Bool) (D : Mem → α → List Value → Prop) (t : TypeId) (k : Nat) : Prop :=
  ∀ fuel cs x, DataW.trod enc P w 0 sp held fuel t cs = some x → ∃ a, D (memOf w) a cs ∧ cs.length = k ∧ ∀ v ∈ cs, v.oneCell' = true
theorem wf_i64 {n : Int} (h : (Lit.int .i64 n).wf = true) : i64r n := by
  simp [Lit.wf, IntKind.min, IntKind.max, IntKind.signed, IntKind.bits] at h
  unfold i64r; omega
theorem opens_int {t : TypeId} (hu : P.underlying t = some (.int .i64)) : Opens enc P w sp held IntD t 1 := by
  intro fuel cs x h
  obtain ⟨n, rfl, _, hw⟩ := DataW.trod_int hu h
  exact ⟨n, ⟨rfl, wf_i64 hw⟩, rfl, by simp [Value.oneCell']⟩
/-- A list of what was found. -/
theorem list_of {α : Type} {R : Nat → α → Prop} : ∀ (n : Nat), (∀ i, i < n → ∃ x, R i x) → ∃ l : List α, l.length = n ∧ ∀ (i : Nat) (x : α), l[i]? = some x → R i x
  | 0, _ => ⟨[], rfl, fun i x h => by simp at h⟩
  | n + 1, h => by
    obtain ⟨l, h1, h2⟩ := list_of n fun i hi => h i (by omega)
    obtain ⟨x, hx⟩ := h n (by omega)
    refine ⟨l ++ [x], by simp [h1], fun i y hy => ?_⟩
    by_cases e : i < l.length
    · rw [List.getElem?_append_left e] at hy; exact h2 i y hy
    · rw [List.getElem?_append_right (by omega)] at hy
      have hi := (List.getElem?_eq_some_iff.1 hy).1
      simp at hi
      have : i = n := by omega
      subst this
      rw [h1] at hy
      simp at hy
      subst hy; exact hx
theorem opens_slice {α : Type} {D : Mem → α → List Value → Prop} {t e : TypeId} {k : Nat} (hu : P.underlying t = some (.slice e)) (hk : P.cellsOf e = k) (_hk0 : 0 < k) (hD : Opens enc P w sp held D e k) :
    Opens enc P w sp held (fun M l r => ∃ v, r = [v] ∧ Arr D M k v l) t 1 := by
  intro fuel cs x h
  rcases DataW.trod_slice hu h with ⟨rfl, _⟩ | ⟨a, len, cap, elems, rest, n, _, rfl, _, _, hl, hm, hlen, hel, _⟩
  · exact ⟨[], ⟨_, rfl, Arr.of [] (by simp) (SlAt.nil _ k) trivial⟩, rfl, by simp [Value.oneCell']⟩
  have h1 : ∀ i, i < len → ∃ q : α × List Value, D (memOf w) q.1 q.2 ∧ q.2.length = k ∧ (∀ v ∈ q.2, v.oneCell' = true) ∧ ∀ (j : Nat) (y : Value), q.2[j]? = some y → (memOf w).cell (a.add (i * k + j)) = some y := by
    intro i hi
    have h2 := hel i hi
    rw [List.getElem?_eq_getElem (by omega), Option.bind_eq_some_iff] at h2
    obtain ⟨r, hr, hy⟩ := h2
    obtain ⟨x, h3, h4, h5⟩ := hD _ _ _ hy
    obtain ⟨_, h6, h7⟩ := World.cells?_some hr
    refine ⟨(x, r), h3, h4, h5, fun j y hj => ?_⟩
    have hj' := (List.getElem?_eq_some_iff.1 hj).1
    simp only at hj'
    have h8 := h7 j (by omega)
    rw [hj, hk, Addr.add_add] at h8
    exact memOf_cell h8
  obtain ⟨l, hl1, hl2⟩ := list_of len h1
  have hrows : ∀ r ∈ l.map (·.2), r.length = k := fun r hr => by
    obtain ⟨q, hq, rfl⟩ := List.mem_map.1 hr
    obtain ⟨i, hi⟩ := List.getElem?_of_mem hq
    exact (hl2 i q hi).2.1
  refine ⟨l.map (·.1), ⟨_, rfl, l.map (·.2), by simp, hrows, ⟨some a, cap, ?_, ?_, hm, ?_, ?_, ?_⟩, ?_⟩, rfl, by simp [Value.oneCell']⟩
  · simp [hl1]
  · simp [hl1, hl]
  · have : ∀ rows : List (List Value), (∀ r ∈ rows, r.length = k) → rows.flatten.length = rows.length * k := by
      intro rows
      induction rows with
      | nil => simp
      | cons r rows ih => intro h; rw [List.flatten_cons, List.length_append, ih (fun r hr => h r (List.mem_cons_of_mem _ hr)), h r (List.mem_cons_self), List.length_cons, Nat.add_mul]; omega
    rw [this _ hrows]; simp
  · intro v hv
    obtain ⟨r, hr, hv⟩ := List.mem_flatten.1 hv
    obtain ⟨q, hq, rfl⟩ := List.mem_map.1 hr
    obtain ⟨i, hi⟩ := List.getElem?_of_mem hq
    exact (hl2 i q hi).2.2.1 v hv
  · intro _
    refine ⟨a, rfl, fun j v hj => ?_⟩
    have key : ∀ (rows : List (List Value)) (b : Nat), (∀ r ∈ rows, r.length = k) → (∀ i r, rows[i]? = some r → ∀ (j : Nat) (y : Value), r[j]? = some y → (memOf w).cell (a.add ((b + i) * k + j)) = some y) → ∀ (j : Nat) (v : Value), rows.flatten[j]? = some v → (memOf w).cell (a.add (b * k + j)) = some v := by
      intro rows
      induction rows with
      | nil => intro b _ _ j v hj; simp at hj
      | cons r rows ih =>
        intro b hk1 hk2 j v hj
        have hr := hk1 r (List.mem_cons_self)
        rw [List.flatten_cons] at hj
        by_cases e : j < r.length
        · rw [List.getElem?_append_left e] at hj
          exact hk2 0 r rfl j v hj
        · rw [List.getElem?_append_right (by omega)] at hj
          have := ih (b + 1) (fun r hr => hk1 r (List.mem_cons_of_mem _ hr)) (fun i r hi => by rw [show b + 1 + i = b + (i + 1) by omega]; exact hk2 (i + 1) r (by simpa using hi)) _ v hj
          rw [show (b + 1) * k + (j - r.length) = b * k + j by rw [Nat.add_mul, hr]; omega] at this
          exact this
    have := key (l.map (·.2)) 0 hrows (fun i r hi j y hj => by
      rw [List.getElem?_map] at hi
      cases hq : l[i]? with
      | none => rw [hq] at hi; cases hi
      | some q =>
        rw [hq] at hi
        simp only [Option.map_some, Option.some.injEq] at hi
        subst hi
        rw [Nat.zero_add]
        exact (hl2 i q hq).2.2.2 j y hj) j v hj
    simpa using this
  · intro i x r hx hr
    rw [List.getElem?_map] at hx hr
    cases hq : l[i]? with
    | none => rw [hq] at hx; cases hx
    | some q =>
      rw [hq] at hx hr
      simp only [Option.map_some, Option.some.injEq] at hx hr
      subst hx hr
      exact (hl2 i q hq).1
end
end Go.Proofs.Ytaobaeiohjgdcaa
