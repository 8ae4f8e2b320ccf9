/- TranslateMoves: for any two charts: if both are moved alike, the same cells touch, and the one keeps the other one exactly as before, as long as both are valid. No conditions beyond the statement's own. -/
import Derived.Test.YtegmjmdkhbibjaaGreatHa9
import Derived.Test.YtegmjmdkhbibjaaGreatRows
import Derived.ProofKit
import Derived.OpenShut
set_option linter.unusedVariables false
set_option linter.unusedSimpArgs false
/- Contracts of translation with the value given. -/
namespace Go.Proofs.YtegmjmdkhbibjaaGreat
open Go Go.V Go.RowKit
theorem SameInts_eq {v w : Value} {l : List Int} {M : Mem} (hv : IntsV M v l) (hw : IntsV M w l) : FnP Tryz.prog 14 [v, w] M [.bool true] := by
  have := SameInts15_fn v w l l M hv hw
  rw [decide_eq_true rfl] at this
  exact this
def tL (c : ChartS) (i : Int) (e : ChartS) : List Int := if (sqOK c i && validC e) = true then touC c i e else []
def tN (c : ChartS) (i : Int) (e : ChartS) : Int := if (sqOK c i && validC e) = true then 0 else 1
theorem tMono {c e : ChartS} {i : Int} {f : Nat} {args : List Value} {M : Mem} (h : V.Fn Tryz.prog f args M fun rs M' => if (sqOK c i && validC e) = true then ∃ u, rs = [u, .int .i64 0] ∧ IntsV M' u (touC c i e) else rs = [.slice none 0 0, .int .i64 1]) :
    V.Fn Tryz.prog f args M fun rs M' => ∃ u, rs = [u, .int .i64 (tN c i e)] ∧ IntsV M' u (tL c i e) :=
  h.mono fun rs M' _ h => by
    unfold tN tL
    by_cases hc : (sqOK c i && validC e) = true
    · rw [if_pos hc] at h
      rw [if_pos hc, if_pos hc]; exact h
    · rw [if_neg hc] at h
      rw [if_neg hc, if_neg hc]
      exact ⟨_, h, IntsV.nil M'⟩
theorem Touch_is {c e : ChartS} {a b d a2 b2 d2 : Value} (i : Int) {M : Mem} (h : Cha M c a b d) (h2 : Cha M e a2 b2 d2) : V.Fn Tryz.prog 12 [chV c a b d, .int .i64 i, chV e a2 b2 d2] M fun rs M' => ∃ u, rs = [u, .int .i64 (tN c i e)] ∧ IntsV M' u (tL c i e) := tMono (Touch_fn c e a b d a2 b2 d2 i M h h2)
theorem Touch30_is {c e : ChartS} {a b d a2 b2 d2 : Value} (i : Int) {M : Mem} (h : Cha M c a b d) (h2 : Cha M e a2 b2 d2) : V.Fn Tryz.prog 13 [chV c a b d, .int .i64 i, chV e a2 b2 d2] M fun rs M' => ∃ u, rs = [u, .int .i64 (tN c i e)] ∧ IntsV M' u (tL c i e) := tMono (Touch30_fn c e a b d a2 b2 d2 i M h h2)
def cN (c e : ChartS) (l : List Int) : Int := if celOK c e l = true then 0 else 1
def cL (c e : ChartS) (l : List Int) : List Int := if celOK c e l = true then celC c e l e.cs.length else []
theorem cMono {c e : ChartS} {l : List Int} {f : Nat} {args : List Value} {M : Mem} (h : V.Fn Tryz.prog f args M fun rs M' => if celOK c e l = true then ∃ u zs, rs = [u, .int .i64 0] ∧ IntsV M' u zs ∧ IsCel c e l zs else rs = [.slice none 0 0, .int .i64 1]) :
    V.Fn Tryz.prog f args M fun rs M' => ∃ u, rs = [u, .int .i64 (cN c e l)] ∧ IntsV M' u (cL c e l) :=
  h.mono fun rs M' _ h => by
    unfold cN cL
    by_cases hc : celOK c e l = true
    · rw [if_pos hc] at h
      rw [if_pos hc, if_pos hc]
      obtain ⟨u, zs, h1, h2, h3⟩ := h
      rw [h3.eq (celC_is c e l)] at h2
      exact ⟨u, h1, h2⟩
    · rw [if_neg hc] at h
      rw [if_neg hc, if_neg hc]
      exact ⟨_, h, IntsV.nil M'⟩
theorem Cells_is {c e : ChartS} {a b d a2 b2 d2 v : Value} {l : List Int} {M : Mem} (h : Cha M c a b d) (h2 : Cha M e a2 b2 d2) (hv : IntsV M v l) (hl : l.length ≤ 2000) : V.Fn Tryz.prog 15 [chV c a b d, chV e a2 b2 d2, v] M fun rs M' => ∃ u, rs = [u, .int .i64 (cN c e l)] ∧ IntsV M' u (cL c e l) := cMono (Cells_fn c e a b d a2 b2 d2 v l M h h2 hv hl)
theorem Cells30_is {c e : ChartS} {a b d a2 b2 d2 v : Value} {l : List Int} {M : Mem} (h : Cha M c a b d) (h2 : Cha M e a2 b2 d2) (hv : IntsV M v l) : V.Fn Tryz.prog 16 [chV c a b d, chV e a2 b2 d2, v] M fun rs M' => ∃ u, rs = [u, .int .i64 (cN c e l)] ∧ IntsV M' u (cL c e l) := cMono (Cells30_fn c e a b d a2 b2 d2 v l M h h2 hv)
def kN (c e : ChartS) : Int := if (validC c && validC e) = true then 0 else 1
def kB (c e : ChartS) : Bool := validC c && validC e && keepsC c e
theorem kMono {c e : ChartS} {f : Nat} {args : List Value} {M : Mem} (h : V.Fn Tryz.prog f args M fun rs _ => rs = if (validC c && validC e) = true then [.bool (keepsC c e), .int .i64 0] else [.bool false, .int .i64 1]) :
    V.Fn Tryz.prog f args M fun rs _ => rs = [.bool (kB c e), .int .i64 (kN c e)] :=
  h.mono fun rs M' _ h => by
    unfold kN kB
    by_cases hc : (validC c && validC e) = true
    · rw [if_pos hc] at h
      rw [if_pos hc, hc]; exact h
    · rw [if_neg hc] at h
      rw [if_neg hc, (Bool.not_eq_true _).mp hc]; exact h
theorem Keeps_is {c e : ChartS} {a b d a2 b2 d2 : Value} {M : Mem} (h : Cha M c a b d) (h2 : Cha M e a2 b2 d2) : V.Fn Tryz.prog 17 [chV c a b d, chV e a2 b2 d2] M fun rs _ => rs = [.bool (kB c e), .int .i64 (kN c e)] := kMono (Keeps_fn c e a b d a2 b2 d2 M h h2)
theorem Keeps30_is {c e : ChartS} {a b d a2 b2 d2 : Value} {M : Mem} (h : Cha M c a b d) (h2 : Cha M e a2 b2 d2) : V.Fn Tryz.prog 18 [chV c a b d, chV e a2 b2 d2] M fun rs _ => rs = [.bool (kB c e), .int .i64 (kN c e)] := kMono (Keeps30_fn c e a b d a2 b2 d2 M h h2)
/-- Both charts are valid: Touch, Keeps. -/
theorem Touch_ok {c e : ChartS} {a b d a2 b2 d2 : Value} {i : Int} {M : Mem} (h : Cha M c a b d) (h2 : Cha M e a2 b2 d2) (hc : validC c = true) (he : validC e = true) (hi : 0 ≤ i ∧ i < c.cs.length) : V.Fn Tryz.prog 12 [chV c a b d, .int .i64 i, chV e a2 b2 d2] M fun rs M' => ∃ u, rs = [u, .int .i64 0] ∧ IntsV M' u (touC c i e) := by
  have := Touch_fn c e a b d a2 b2 d2 i M h h2
  rw [sqOK_of hc hi, he] at this
  simpa using this
theorem Keeps_ok {c e : ChartS} {a b d a2 b2 d2 : Value} {M : Mem} (h : Cha M c a b d) (h2 : Cha M e a2 b2 d2) (hc : validC c = true) (he : validC e = true) : V.Fn Tryz.prog 17 [chV c a b d, chV e a2 b2 d2] M fun rs _ => rs = [.bool (keepsC c e), .int .i64 0] := by
  have := Keeps_fn c e a b d a2 b2 d2 M h h2
  rw [hc, he] at this
  simpa using this
theorem At_ok {c : ChartS} {a b d : Value} {x : Pt} {M : Mem} (h : Cha M c a b d) (hc : validC c = true) (hx : placeB x = true) (h64 : i64r x.1 ∧ i64r x.2) : V.Fn Tryz.prog 27 [chV c a b d, ptv x] M fun rs _ => rs = atR c x := by
  have := Go.Proofs.YtegmjmdkhbibjaaGreat.At_fn c a b d x M h h64
  rw [show atOK c x = true by unfold atOK; rw [hc, hx]; rfl, if_pos rfl] at this
  exact this
/-- What At returns. -/
theorem atR_cases (c : ChartS) (x : Pt) : (atR c x = [.int .i64 0, .bool false, .int .i64 0] ∧ ∀ i : Int, (0 ≤ i ∧ i < c.cs.length) → ¬ sqIn c i x) ∨ ∃ i : Nat, i < c.cs.length ∧ sqIn c i x ∧ atR c x = [.int .i64 i, .bool true, .int .i64 0] := by
  unfold atR
  split
  · rename_i h
    refine .inl ⟨rfl, fun i hi hs => ?_⟩
    have := under_at.2 ⟨hi, hs⟩
    rw [h] at this; cases this
  · rename_i i r h
    have : i ∈ underC c x x := by rw [h]; exact List.mem_cons_self
    obtain ⟨h1, h2⟩ := under_at.1 this
    have ei : ((i.toNat : Nat) : Int) = i := Int.toNat_of_nonneg h1.1
    exact .inr ⟨i.toNat, by omega, by rw [ei]; exact h2, by rw [ei]⟩
abbrev V3 := Value × Value × Value
end Go.Proofs.YtegmjmdkhbibjaaGreat

/- The bridge from a law's arguments to the data in memory. -/
namespace Go.Proofs.YtegmjmdkhbibjaaGreat
open Go Go.V Go.RowKit
section
variable {H : Type} {enc : TypeId × Value → H} {P : Program} {w : World} {sp : Nat → Bool} {held : Bool}
/-- All that is in memory. -/
def memOf (w : World) : Mem := fun b => w.heap[b]?
theorem memOf_ok (w : World) : (memOf w).ok w := fun _ _ h => h
theorem memOf_cell {w : World} {a : Addr} {v : Value} (h : w.cell? a = some v) : (memOf w).cell a = some v := by
  unfold Mem.cell memOf
  unfold World.cell? at h
  cases hb : w.heap[a.block]? with
  | none => rw [hb] at h; cases h
  | some o => rw [hb] at h; cases o <;> first | exact h | cases h
/-- What a type's cells say. -/
def Opens {α : Type} (enc : TypeId × Value → H) (P : Program) (w : World) (sp : Nat → Bool) (held : Bool) (D : Mem → α → List Value → Prop) (t : TypeId) (k : Nat) : Prop :=
  ∀ fuel cs x, DataW.trod enc P w 0 sp held fuel t cs = some x → ∃ a, D (memOf w) a cs ∧ cs.length = k ∧ ∀ v ∈ cs, v.oneCell' = true
theorem wf_i64 {n : Int} (h : (Lit.int .i64 n).wf = true) : i64r n := by
  simp [Lit.wf, IntKind.min, IntKind.max, IntKind.signed, IntKind.bits] at h
  unfold i64r; omega
theorem opens_int {t : TypeId} (hu : P.underlying t = some (.int .i64)) : Opens enc P w sp held IntD t 1 := by
  intro fuel cs x h
  obtain ⟨n, rfl, _, hw⟩ := DataW.trod_int hu h
  exact ⟨n, ⟨rfl, wf_i64 hw⟩, rfl, by simp [Value.oneCell']⟩
/-- A list of what was found. -/
theorem list_of {α : Type} {R : Nat → α → Prop} : ∀ (n : Nat), (∀ i, i < n → ∃ x, R i x) → ∃ l : List α, l.length = n ∧ ∀ (i : Nat) (x : α), l[i]? = some x → R i x
  | 0, _ => ⟨[], rfl, fun i x h => by simp at h⟩
  | n + 1, h => by
    obtain ⟨l, h1, h2⟩ := list_of n fun i hi => h i (by omega)
    obtain ⟨x, hx⟩ := h n (by omega)
    refine ⟨l ++ [x], by simp [h1], fun i y hy => ?_⟩
    by_cases e : i < l.length
    · rw [List.getElem?_append_left e] at hy; exact h2 i y hy
    · rw [List.getElem?_append_right (by omega)] at hy
      have hi := (List.getElem?_eq_some_iff.1 hy).1
      simp at hi
      have : i = n := by omega
      subst this
      rw [h1] at hy
      simp at hy
      subst hy; exact hx
theorem opens_slice {α : Type} {D : Mem → α → List Value → Prop} {t e : TypeId} {k : Nat} (hu : P.underlying t = some (.slice e)) (hk : P.cellsOf e = k) (_hk0 : 0 < k) (hD : Opens enc P w sp held D e k) :
    Opens enc P w sp held (fun M l r => ∃ v, r = [v] ∧ Arr D M k v l) t 1 := by
  intro fuel cs x h
  rcases DataW.trod_slice hu h with ⟨rfl, _⟩ | ⟨a, len, cap, elems, rest, n, _, rfl, _, _, hl, hm, hlen, hel, _⟩
  · exact ⟨[], ⟨_, rfl, Arr.of [] (by simp) (SlAt.nil _ k) trivial⟩, rfl, by simp [Value.oneCell']⟩
  have h1 : ∀ i, i < len → ∃ q : α × List Value, D (memOf w) q.1 q.2 ∧ q.2.length = k ∧ (∀ v ∈ q.2, v.oneCell' = true) ∧ ∀ (j : Nat) (y : Value), q.2[j]? = some y → (memOf w).cell (a.add (i * k + j)) = some y := by
    intro i hi
    have h2 := hel i hi
    rw [List.getElem?_eq_getElem (by omega), Option.bind_eq_some_iff] at h2
    obtain ⟨r, hr, hy⟩ := h2
    obtain ⟨x, h3, h4, h5⟩ := hD _ _ _ hy
    obtain ⟨_, h6, h7⟩ := World.cells?_some hr
    refine ⟨(x, r), h3, h4, h5, fun j y hj => ?_⟩
    have hj' := (List.getElem?_eq_some_iff.1 hj).1
    simp only at hj'
    have h8 := h7 j (by omega)
    rw [hj, hk, Addr.add_add] at h8
    exact memOf_cell h8
  obtain ⟨l, hl1, hl2⟩ := list_of len h1
  have hrows : ∀ r ∈ l.map (·.2), r.length = k := fun r hr => by
    obtain ⟨q, hq, rfl⟩ := List.mem_map.1 hr
    obtain ⟨i, hi⟩ := List.getElem?_of_mem hq
    exact (hl2 i q hi).2.1
  refine ⟨l.map (·.1), ⟨_, rfl, l.map (·.2), by simp, hrows, ⟨some a, cap, ?_, ?_, hm, ?_, ?_, ?_⟩, ?_⟩, rfl, by simp [Value.oneCell']⟩
  · simp [hl1]
  · simp [hl1, hl]
  · have : ∀ rows : List (List Value), (∀ r ∈ rows, r.length = k) → rows.flatten.length = rows.length * k := by
      intro rows
      induction rows with
      | nil => simp
      | cons r rows ih => intro h; rw [List.flatten_cons, List.length_append, ih (fun r hr => h r (List.mem_cons_of_mem _ hr)), h r (List.mem_cons_self), List.length_cons, Nat.add_mul]; omega
    rw [this _ hrows]; simp
  · intro v hv
    obtain ⟨r, hr, hv⟩ := List.mem_flatten.1 hv
    obtain ⟨q, hq, rfl⟩ := List.mem_map.1 hr
    obtain ⟨i, hi⟩ := List.getElem?_of_mem hq
    exact (hl2 i q hi).2.2.1 v hv
  · intro _
    refine ⟨a, rfl, fun j v hj => ?_⟩
    have key : ∀ (rows : List (List Value)) (b : Nat), (∀ r ∈ rows, r.length = k) → (∀ i r, rows[i]? = some r → ∀ (j : Nat) (y : Value), r[j]? = some y → (memOf w).cell (a.add ((b + i) * k + j)) = some y) → ∀ (j : Nat) (v : Value), rows.flatten[j]? = some v → (memOf w).cell (a.add (b * k + j)) = some v := by
      intro rows
      induction rows with
      | nil => intro b _ _ j v hj; simp at hj
      | cons r rows ih =>
        intro b hk1 hk2 j v hj
        have hr := hk1 r (List.mem_cons_self)
        rw [List.flatten_cons] at hj
        by_cases e : j < r.length
        · rw [List.getElem?_append_left e] at hj
          exact hk2 0 r rfl j v hj
        · rw [List.getElem?_append_right (by omega)] at hj
          have := ih (b + 1) (fun r hr => hk1 r (List.mem_cons_of_mem _ hr)) (fun i r hi => by rw [show b + 1 + i = b + (i + 1) by omega]; exact hk2 (i + 1) r (by simpa using hi)) _ v hj
          rw [show (b + 1) * k + (j - r.length) = b * k + j by rw [Nat.add_mul, hr]; omega] at this
          exact this
    have := key (l.map (·.2)) 0 hrows (fun i r hi j y hj => by
      rw [List.getElem?_map] at hi
      cases hq : l[i]? with
      | none => rw [hq] at hi; cases hi
      | some q =>
        rw [hq] at hi
        simp only [Option.map_some, Option.some.injEq] at hi
        subst hi
        rw [Nat.zero_add]
        exact (hl2 i q hq).2.2.2 j y hj) j v hj
    simpa using this
  · intro i x r hx hr
    rw [List.getElem?_map] at hx hr
    cases hq : l[i]? with
    | none => rw [hq] at hx; cases hx
    | some q =>
      rw [hq] at hx hr
      simp only [Option.map_some, Option.some.injEq] at hx hr
      subst hx hr
      exact (hl2 i q hq).1
end
end Go.Proofs.YtegmjmdkhbibjaaGreat

/- The bridge: the types of this program; what a law leaves. -/
namespace Go.Proofs.YtegmjmdkhbibjaaGreat
open Go Go.V Go.RowKit
section
variable {H : Type} {enc : TypeId × Value → H} {w : World} {sp : Nat → Bool} {held : Bool}
def PtD (_ : Mem) (p : Pt) (r : List Value) : Prop := r = [.int .i64 p.1, .int .i64 p.2] ∧ i64r p.1 ∧ i64r p.2
theorem field0 {P : Program} {t : TypeId} {fs : Array Field} {fuel : Nat} {cs : List Value} {x : DataW H × List MemPlace} (hu : P.underlying t = some (.struct fs)) (h : DataW.trod enc P w 0 sp held fuel t cs = some x) :
    cs.length = P.cellsOf t ∧ ∃ n, ∀ (i : Nat) (f : Field), fs[i]? = some f → ∃ y, DataW.trod enc P w 0 sp held n f.type ((cs.drop f.offset).take (P.cellsOf f.type)) = some y := by
  obtain ⟨xs, n, _, _, hl, hx, hf⟩ := DataW.trod_struct hu h
  refine ⟨hl, n, fun i f hi => ?_⟩
  have := hf i f hi
  have hlt := (Array.getElem?_eq_some_iff.1 hi).1
  rw [List.getElem?_eq_getElem (by omega)] at this
  exact ⟨_, this⟩
theorem len2 {α : Type} {l : List α} (h : l.length = 2) : ∃ a b, l = [a, b] := by
  match l, h with
  | [a, b], _ => exact ⟨a, b, rfl⟩
theorem opens3 : Opens enc Tryz.prog w sp held IntD 3 1 := opens_int Tryz.underlying3
theorem opens46 : Opens enc Tryz.prog w sp held PtD 46 2 := by
  intro fuel cs x h
  obtain ⟨hl, n, hf⟩ := field0 Tryz.underlying46 h
  have hk : Tryz.prog.cellsOf 46 = 2 := by kernel_rfl
  have hk3 : Tryz.prog.cellsOf 3 = 1 := by kernel_rfl
  rw [hk] at hl
  obtain ⟨a, b, rfl⟩ : ∃ a b, cs = [a, b] := len2 hl
  obtain ⟨y, hy⟩ := hf 0 _ rfl
  obtain ⟨z, hz⟩ := hf 1 _ rfl
  have hy : DataW.trod enc Tryz.prog w 0 sp held n 3 ((List.drop 0 [a, b]).take (Tryz.prog.cellsOf 3)) = some y := hy
  rw [hk3] at hy
  have hz : DataW.trod enc Tryz.prog w 0 sp held n 3 ((List.drop 1 [a, b]).take (Tryz.prog.cellsOf 3)) = some z := hz
  rw [hk3] at hz
  obtain ⟨n1, ⟨h1, g1⟩, _⟩ := opens3 _ _ _ hy
  obtain ⟨n2, ⟨h2, g2⟩, _⟩ := opens3 _ _ _ hz
  simp at h1 h2
  subst h1 h2
  exact ⟨(n1, n2), ⟨rfl, g1, g2⟩, rfl, by simp [Value.oneCell']⟩
theorem cellsP_rows (ps : List Pt) : (ps.map fun p => [Value.int .i64 p.1, Value.int .i64 p.2]).flatten = cellsP ps := by
  induction ps with
  | nil => rfl
  | cons p ps ih => simp only [List.map_cons, List.flatten_cons, ih]; rfl
theorem Pts.of_arr {M : Mem} {v : Value} {ps : List Pt} (h : Arr PtD M 2 v ps) : Pts M v ps ∧ i64P ps := by
  obtain ⟨rows, h1, h2, h3, h4⟩ := h
  have e : rows = ps.map fun p => [Value.int .i64 p.1, Value.int .i64 p.2] := by
    apply List.ext_getElem?
    intro i
    rw [List.getElem?_map]
    cases hp : ps[i]? with
    | none =>
      have := List.getElem?_eq_none_iff.1 hp
      simp only [Option.map_none]
      exact List.getElem?_eq_none (by omega)
    | some p =>
      have hi := (List.getElem?_eq_some_iff.1 hp).1
      have hr : rows[i]? = some (rows[i]'(by omega)) := List.getElem?_eq_getElem (by omega)
      rw [hr]
      simp only [Option.map_some, Option.some.injEq]
      exact (h4 i p _ hp hr).1
  rw [e, cellsP_rows] at h3
  refine ⟨h3, fun i hi => ?_⟩
  have hp := getD_get (0, 0) hi
  have hr : rows[i]? = some (rows[i]'(by omega)) := List.getElem?_eq_getElem (by omega)
  exact (h4 i _ _ hp hr).2
theorem opens71 : Opens enc Tryz.prog w sp held PolyD 71 1 := by
  intro fuel cs x h
  obtain ⟨l, ⟨v, rfl, ha⟩, h2, h3⟩ := opens_slice Tryz.underlying71 (k := 2) (by kernel_rfl) (by omega) opens46 fuel cs x h
  exact ⟨l, ⟨v, rfl, Pts.of_arr ha⟩, h2, h3⟩
theorem CasV.one {M : Mem} {v : Value} {l : List CaseS} (h : CasV M v l) : v.oneCell' = true := by obtain ⟨ad, c, rfl, _⟩ := h.get; rfl
end
section
variable {H : Type} {enc : TypeId × Value → H} {P : Program}
theorem trodAll_stays (hl : laidOutB P = true) {W W' : World} (hb : Below W.heap.size W W') (sp : Nat → Bool) : ∀ {ts : List TypeId} {vs : List Value} {ds : List (DataW H)} {ps : List MemPlace}, (∀ t ∈ ts, P.readableRec t = true ∧ t < P.types.size) →
    DataW.TrodAll enc P W 0 (fun _ => true) true ts vs ds ps → (∀ x ∈ ps, x.block < W.heap.size) → (∀ x ∈ ps, sp x.block = true) → DataW.TrodAll enc P W' 0 sp true ts vs ds ps
  | [], _, _, _, _, h, _, _ => by
    obtain ⟨rfl, rfl, rfl⟩ := ChangeShapes.trodAll_nil h
    rfl
  | t :: ts, _, _, _, ht, h, hlt, hsp => by
    obtain ⟨v, vs, d, ds, p, q, rfl, rfl, rfl, h1, h2⟩ := ChangeShapes.trodAll_cons h
    refine ⟨p, q, ?_, trodAll_stays hl hb sp (fun t h => ht t (List.mem_cons_of_mem _ h)) h2 (fun x hx => hlt x (List.mem_append_right _ hx)) (fun x hx => hsp x (List.mem_append_right _ hx)), rfl⟩
    exact WideElems.Trod_stays hl (ht t List.mem_cons_self).1 (ht t List.mem_cons_self).2 h1 (fun x hx => hb.same (hlt x (List.mem_append_left _ hx))) (fun x hx => hsp x (List.mem_append_left _ hx))
theorem post_of_below {f : Func} {s : ChangeSpec} {apart fresh handsOn again : Bool} {W W' : World} {args : Array Value} {v : Value} {ds : List (DataW H)} {before : List MemPlace}
    (hl : laidOutB P = true) (hr : ∀ t ∈ f.params.toList, P.readableRec t = true ∧ t < P.types.size) (hvs : s.vars = [])
    (hW : DataW.Whole enc P f.params.toList s.vars apart W args.toList ds [] before) (hA : DataW.TrodAll enc P W 0 (fun _ => true) true f.params.toList args.toList ds before)
    (hres : ∀ (b : Nat) (sp : Nat → Bool) (hd : Bool), DataW.TrodAll enc P W' b sp hd f.resultTypes.toList (v.resultList f.resultTypes.size) (s.fn H (ds ++ [])).results [])
    (hargs : (s.fn H (ds ++ [])).args = ds) (hvars : (s.fn H (ds ++ [])).vars = []) (hb : Below W.heap.size W W')
    (hok : ∀ (j : Nat) (t : TypeId) (r : Value), f.resultTypes[j]? = some t → (v.resultList f.resultTypes.size)[j]? = some r → Value.okWide P W' .any 0 t r) :
    s.post enc P f apart fresh handsOn again W args v W' := by
  have hlt : ∀ p ∈ before, p.block < W.heap.size := fun p hp => by simpa using hW.lt p hp
  have hold : ∀ p ∈ before, (fun b => decide (b < W.heap.size)) p.block = true := fun p hp => by simpa using hlt p hp
  have st : ∀ sp : Nat → Bool, (∀ p ∈ before, sp p.block = true) → DataW.TrodAll enc P W' 0 sp true f.params.toList args.toList (s.fn H (ds ++ [])).args before := fun sp hsp => by
    rw [hargs]; exact trodAll_stays hl hb sp hr hA hlt hsp
  have sv : ∀ sp : Nat → Bool, DataW.TrodVars enc P W' sp s.vars (s.fn H (ds ++ [])).vars [] := fun sp => by rw [hvs, hvars]; rfl
  refine ⟨ds, [], before, [], before, [], hW, hres _ _ _, st _ hold, sv _, hb.frame _, fun _ => ?_⟩
  obtain ⟨_, _, _, _, _, hz, hn⟩ := hW
  refine ⟨hok, _, _, ([] ++ before) ++ [], ⟨[] ++ before, [], ChangeShapes.trodAll_append (st _ (fun _ _ => rfl)) (hres _ _ _), sv _, rfl, ?_, ?_⟩, ?_⟩
  · intro b off hp
    have hp' : MemPlace.cell b off ∈ before := by simpa using hp
    rw [hb.frozen (show (⟨b, off, none⟩ : Addr).block < W.heap.size from hlt _ hp')]
    exact hz b off hp'
  · intro ha
    simpa using hn ha
  · intro p hp _
    simpa using hp
end
theorem laid : laidOutB Tryz.prog = true := by kernel_rfl
theorem own : ownKnob Tryz.prog.godebug = none := by kernel_rfl
end Go.Proofs.YtegmjmdkhbibjaaGreat

/- The bridge: structs, whichever they are. -/
namespace Go.Proofs.YtegmjmdkhbibjaaGreat
open Go Go.V Go.RowKit
section
variable {H : Type} {enc : TypeId × Value → H} {P : Program} {w : World} {sp : Nat → Bool} {held : Bool}
abbrev RQ := Mem → List Value → Prop
/-- What a type's cells say. -/
def OpQ (enc : TypeId × Value → H) (P : Program) (w : World) (sp : Nat → Bool) (held : Bool) (Q : RQ) (t : TypeId) (k : Nat) : Prop :=
  ∀ fuel cs x, DataW.trod enc P w 0 sp held fuel t cs = some x → Q (memOf w) cs ∧ cs.length = k ∧ ∀ v ∈ cs, v.oneCell' = true
theorem OpQ.of {α : Type} {D : Mem → α → List Value → Prop} {t : TypeId} {k : Nat} (h : Opens enc P w sp held D t k) : OpQ enc P w sp held (fun M r => ∃ a, D M a r) t k := fun fuel cs x hx => by
  obtain ⟨a, h1, h2, h3⟩ := h fuel cs x hx
  exact ⟨⟨a, h1⟩, h2, h3⟩
structure FQ where
  t : TypeId
  k : Nat
  Q : RQ
def AllQ (M : Mem) : List FQ → List Value → Prop
  | [], cs => cs = []
  | q :: qs, cs => ∃ r cs', cs = r ++ cs' ∧ r.length = q.k ∧ q.Q M r ∧ AllQ M qs cs'
def sumQ : List FQ → Nat
  | [] => 0
  | q :: qs => q.k + sumQ qs
def offQ : Nat → List FQ → List (Nat × TypeId)
  | _, [] => []
  | o, q :: qs => (o, q.t) :: offQ (o + q.k) qs
theorem allQ_go {n : Nat} {full : List Value} : ∀ (qs : List FQ) (off : Nat) (fl : List Field), fl.map (fun f => (f.offset, f.type)) = offQ off qs → full.length = off + sumQ qs →
    (∀ f ∈ fl, ∃ y, DataW.trod enc P w 0 sp held n f.type ((full.drop f.offset).take (P.cellsOf f.type)) = some y) → (∀ q ∈ qs, P.cellsOf q.t = q.k ∧ OpQ enc P w sp held q.Q q.t q.k) → AllQ (memOf w) qs (full.drop off) ∧ ∀ v ∈ full.drop off, v.oneCell' = true
  | [], off, fl, _, hl, _, _ => by
    have : full.drop off = [] := List.drop_eq_nil_of_le (by simp [sumQ] at hl; omega)
    rw [this]; exact ⟨rfl, by simp⟩
  | q :: qs, off, fl, hf, hl, hy, hq => by
    match fl, hf with
    | f :: fl, hf =>
      simp only [List.map_cons, offQ, List.cons.injEq, Prod.mk.injEq] at hf
      obtain ⟨⟨h1, h2⟩, h3⟩ := hf
      obtain ⟨y, hy1⟩ := hy f List.mem_cons_self
      obtain ⟨g1, g2⟩ := hq q List.mem_cons_self
      rw [h1, h2, g1] at hy1
      obtain ⟨k1, k2, k3⟩ := g2 _ _ _ hy1
      obtain ⟨i1, i2⟩ := allQ_go qs (off + q.k) fl h3 (by simp only [sumQ] at hl; omega) (fun f hf => hy f (List.mem_cons_of_mem _ hf)) (fun q hq' => hq q (List.mem_cons_of_mem _ hq'))
      have e : full.drop off = (full.drop off).take q.k ++ full.drop (off + q.k) := by
        rw [← List.drop_drop]; exact (List.take_append_drop _ _).symm
      refine ⟨⟨_, _, e, k2, k1, i1⟩, fun v hv => ?_⟩
      rw [e] at hv
      rcases List.mem_append.1 hv with hv | hv
      · exact k3 v hv
      · exact i2 v hv
theorem opens_st {t : TypeId} {fs : Array Field} (qs : List FQ) (hu : P.underlying t = some (.struct fs)) (hf : fs.toList.map (fun f => (f.offset, f.type)) = offQ 0 qs) (hk : P.cellsOf t = sumQ qs) (hq : ∀ q ∈ qs, P.cellsOf q.t = q.k ∧ OpQ enc P w sp held q.Q q.t q.k) :
    OpQ enc P w sp held (fun M r => AllQ M qs r) t (sumQ qs) := fun fuel cs x hx => by
  obtain ⟨hl, n, h⟩ := field0 hu hx
  rw [hk] at hl
  obtain ⟨i1, i2⟩ := allQ_go (n := n) (full := cs) qs 0 fs.toList hf (by omega) (fun f hf => by
    obtain ⟨i, hi⟩ := List.getElem?_of_mem hf
    exact h i f (by simpa using hi)) hq
  exact ⟨by simpa using i1, hl, by simpa using i2⟩
theorem hq_nil : ∀ q ∈ ([] : List FQ), P.cellsOf q.t = q.k ∧ OpQ enc P w sp held q.Q q.t q.k := fun _ h => by cases h
theorem hq_cons {q : FQ} {qs : List FQ} (h1 : P.cellsOf q.t = q.k) (h2 : OpQ enc P w sp held q.Q q.t q.k) (h3 : ∀ q ∈ qs, P.cellsOf q.t = q.k ∧ OpQ enc P w sp held q.Q q.t q.k) : ∀ x ∈ q :: qs, P.cellsOf x.t = x.k ∧ OpQ enc P w sp held x.Q x.t x.k := fun x hx => by
  rcases List.mem_cons.1 hx with rfl | hx
  · exact ⟨h1, h2⟩
  · exact h3 x hx
end
theorem wf_u8 {n : Int} (h : (Lit.int .u8 n).wf = true) : 0 ≤ n ∧ n < 256 := by
  simp [Lit.wf, IntKind.min, IntKind.max, IntKind.signed, IntKind.bits] at h; omega
end Go.Proofs.YtegmjmdkhbibjaaGreat

/- The bridge: half-planes. -/
namespace Go.Proofs.YtegmjmdkhbibjaaGreat
open Go Go.V Go.RowKit
section
variable {H : Type} {enc : TypeId × Value → H} {w : World} {sp : Nat → Bool} {held : Bool}
end
end Go.Proofs.YtegmjmdkhbibjaaGreat

/- The bridge: charts. -/
namespace Go.Proofs.YtegmjmdkhbibjaaGreat
open Go Go.V Go.RowKit
section
variable {H : Type} {enc : TypeId × Value → H} {w : World} {sp : Nat → Bool} {held : Bool}
def IQ5 : RQ := fun _ r => ∃ n, r = [.int .i64 n] ∧ i64r n
def SQ5 : RQ := fun _ r => ∃ a b, r = [.int .i64 a, .int .i64 b] ∧ i64r a ∧ i64r b
def BQ5 : RQ := fun _ r => ∃ b, r = [.bool b]
theorem opQ5_int : OpQ enc Tryz.prog w sp held IQ5 3 1 := fun f c x h => OpQ.of (D := IntD) opens3 f c x h
theorem opQ5_bool : OpQ enc Tryz.prog w sp held BQ5 4 1 := fun f c x h => by
  obtain ⟨b, rfl, _⟩ := DataW.trod_bool Tryz.underlying4 h
  exact ⟨⟨b, rfl⟩, rfl, by simp [Value.oneCell']⟩
theorem opQ5_span : OpQ enc Tryz.prog w sp held SQ5 54 2 := fun f c x h => by
  obtain ⟨⟨_, _, rfl, _, ⟨a, rfl, ha⟩, _, _, rfl, _, ⟨b, rfl, hb⟩, rfl⟩, h2⟩ := opens_st [⟨3, 1, IQ5⟩, ⟨3, 1, IQ5⟩] Tryz.underlying54 rfl (by kernel_rfl) (hq_cons (by kernel_rfl) opQ5_int (hq_cons (by kernel_rfl) opQ5_int hq_nil)) f c x h
  exact ⟨⟨a, b, rfl, ha, hb⟩, h2⟩
theorem opQ5_point : OpQ enc Tryz.prog w sp held SQ5 46 2 := fun f c x h => by
  obtain ⟨⟨_, _, rfl, _, ⟨a, rfl, ha⟩, _, _, rfl, _, ⟨b, rfl, hb⟩, rfl⟩, h2⟩ := opens_st [⟨3, 1, IQ5⟩, ⟨3, 1, IQ5⟩] Tryz.underlying46 rfl (by kernel_rfl) (hq_cons (by kernel_rfl) opQ5_int (hq_cons (by kernel_rfl) opQ5_int hq_nil)) f c x h
  exact ⟨⟨a, b, rfl, ha, hb⟩, h2⟩
theorem opens56 : Opens enc Tryz.prog w sp held CellD 56 4 := fun fu c x h => by
  obtain ⟨⟨_, _, rfl, _, ⟨a, b, rfl, ha, hb⟩, _, _, rfl, _, ⟨d, rfl, hd⟩, _, _, rfl, _, ⟨v, rfl⟩, rfl⟩, h3⟩ := opens_st [⟨54, 2, SQ5⟩, ⟨3, 1, IQ5⟩, ⟨4, 1, BQ5⟩] Tryz.underlying56 rfl (by kernel_rfl)
    (hq_cons (by kernel_rfl) opQ5_span (hq_cons (by kernel_rfl) opQ5_int (hq_cons (by kernel_rfl) opQ5_bool hq_nil))) fu c x h
  exact ⟨⟨a, b, d, v⟩, ⟨rfl, ha, hb, hd⟩, h3⟩
theorem opens88 : Opens enc Tryz.prog w sp held BeaD 88 3 := fun fu c x h => by
  obtain ⟨⟨_, _, rfl, _, ⟨a, rfl, ha⟩, _, _, rfl, _, ⟨b, d, rfl, hb, hd⟩, rfl⟩, h3⟩ := opens_st [⟨3, 1, IQ5⟩, ⟨46, 2, SQ5⟩] Tryz.underlying88 rfl (by kernel_rfl)
    (hq_cons (by kernel_rfl) opQ5_int (hq_cons (by kernel_rfl) opQ5_point hq_nil)) fu c x h
  exact ⟨⟨a, b, d⟩, ⟨rfl, ha, hb, hd⟩, h3⟩
theorem opens73 : Opens enc Tryz.prog w sp held LinD 73 2 := fun fu c x h => by
  obtain ⟨⟨_, _, rfl, _, ⟨a, rfl, ha⟩, _, _, rfl, _, ⟨l, v, rfl, h1, h2⟩, rfl⟩, h3⟩ := opens_st [⟨3, 1, IQ5⟩, ⟨71, 1, fun M r => ∃ l, PolyD M l r⟩] Tryz.underlying73 rfl (by kernel_rfl)
    (hq_cons (by kernel_rfl) opQ5_int (hq_cons (by kernel_rfl) (OpQ.of opens71) hq_nil)) fu c x h
  exact ⟨⟨a, l⟩, ⟨v, rfl, ha, h1, h2⟩, h3⟩
theorem opens22 : Opens enc Tryz.prog w sp held (fun M l r => ∃ v, r = [v] ∧ CelsV M v l) 22 1 := opens_slice Tryz.underlying22 (by kernel_rfl) (by omega) opens56
theorem opens23 : Opens enc Tryz.prog w sp held (fun M l r => ∃ v, r = [v] ∧ BeasV M v l) 23 1 := opens_slice Tryz.underlying23 (by kernel_rfl) (by omega) opens88
theorem opens24 : Opens enc Tryz.prog w sp held (fun M l r => ∃ v, r = [v] ∧ LinsV M v l) 24 1 := opens_slice Tryz.underlying24 (by kernel_rfl) (by omega) opens73
theorem opens26 : Opens enc Tryz.prog w sp held (fun (M : Mem) (c : ChartS) r => ∃ u : Value × Value × Value, r = [.int .i64 c.ver, .int .i64 c.x, .int .i64 c.y, .int .i64 c.w, .int .i64 c.h, .int .i64 c.sz, u.1, u.2.1, u.2.2] ∧ Cha M c u.1 u.2.1 u.2.2) 26 9 := fun fu c x h => by
  obtain ⟨⟨_, _, rfl, _, ⟨n1, rfl, g1⟩, _, _, rfl, _, ⟨n2, rfl, g2⟩, _, _, rfl, _, ⟨n3, rfl, g3⟩, _, _, rfl, _, ⟨n4, rfl, g4⟩, _, _, rfl, _, ⟨n5, rfl, g5⟩, _, _, rfl, _, ⟨n6, rfl, g6⟩, _, _, rfl, _, ⟨cs, u1, rfl, k1⟩, _, _, rfl, _, ⟨bs, u2, rfl, k2⟩, _, _, rfl, _, ⟨ls, u3, rfl, k3⟩, rfl⟩, h3⟩ :=
    opens_st [⟨3, 1, IQ5⟩, ⟨3, 1, IQ5⟩, ⟨3, 1, IQ5⟩, ⟨3, 1, IQ5⟩, ⟨3, 1, IQ5⟩, ⟨3, 1, IQ5⟩, ⟨22, 1, fun M r => ∃ l, ∃ v, r = [v] ∧ CelsV M v l⟩, ⟨23, 1, fun M r => ∃ l, ∃ v, r = [v] ∧ BeasV M v l⟩, ⟨24, 1, fun M r => ∃ l, ∃ v, r = [v] ∧ LinsV M v l⟩] Tryz.underlying26 rfl (by kernel_rfl)
    (hq_cons (by kernel_rfl) opQ5_int (hq_cons (by kernel_rfl) opQ5_int (hq_cons (by kernel_rfl) opQ5_int (hq_cons (by kernel_rfl) opQ5_int (hq_cons (by kernel_rfl) opQ5_int (hq_cons (by kernel_rfl) opQ5_int (hq_cons (by kernel_rfl) (OpQ.of opens22) (hq_cons (by kernel_rfl) (OpQ.of opens23) (hq_cons (by kernel_rfl) (OpQ.of opens24) hq_nil))))))))) fu c x h
  exact ⟨⟨n1, n2, n3, n4, n5, n6, cs, bs, ls⟩, ⟨(u1, u2, u3), rfl, ⟨g1, g2, g3, g4, g5, g6⟩, k1, k2, k3⟩, h3⟩
end
end Go.Proofs.YtegmjmdkhbibjaaGreat

/- TranslateMoves: for any two charts: if both are moved alike, the same cells touch, and the one keeps the other one exactly as before, as long as both are valid. No conditions beyond the statement's own. -/
namespace Go.Proofs.YtegmjmdkhbibjaaGreat.translateMoves
open Go Go.V Go.RowKit
set_option maxRecDepth 20000 in
set_option maxHeartbeats 4000000 in
theorem law_fn (c : ChartS) (u : V3) (e : ChartS) (w : V3) (which x y : Int) (M : Mem) (h : Cha M c u.1 u.2.1 u.2.2) (h2 : Cha M e w.1 w.2.1 w.2.2) (h3 : 0 ≤ which ∧ which < 256) (hx : i64r x) (hy : i64r y) :
    V.Fn Tryz.prog 7 [chV c u.1 u.2.1 u.2.2, chV e w.1 w.2.1 w.2.2, .int .u8 which, .agg #[.int .i64 x, .int .i64 y]] M fun rs _ => rs = [.bool true] := by
  obtain ⟨a, b, d⟩ := u
  obtain ⟨a2, b2, d2⟩ := w
  simp only at h h2 ⊢
  obtain ⟨⟨ad, ka, rfl⟩, ⟨bd, kb, rfl⟩, dd, kd, rfl⟩ := h.shape
  obtain ⟨⟨ad2, ka2, rfl⟩, ⟨bd2, kb2, rfl⟩, dd2, kd2, rfl⟩ := h2.shape
  refine Fn.of_vc cxOK Tryz.func7 rfl rfl rfl ?_
  repeat (first | refine VIf.tt ?_ | refine VIf.ff ?_)
  refine VFn.mk _ (head30_fn M) ?_
  rintro rs M1 hM1 rfl
  repeat (first | refine VIf.tt ?_ | refine VIf.ff ?_)
  refine VFn.mk _ (usable30_fn c e _ _ _ _ _ _ M1 (h.le hM1) (h2.le hM1)) ?_
  rintro rs M2 hM2 ⟨q, rfl, hq⟩
  have m2 := hM1.trans hM2
  repeat (first | refine VIf.tt ?_ | refine VIf.ff ?_)
  refine VIf.mk (fun _ => ?_) (fun hu => ?_)
  · repeat (first | refine VIf.tt ?_ | refine VIf.ff ?_)
    exact VFact.mk rfl trivial
  obtain ⟨hc, he⟩ := hq ((Bool.not_eq_false' _).mp hu)
  have hF1 := validC_frame hc
  have hF2 := validC_frame he
  have l1 := len_pos hF1
  have l2 := len_pos hF2
  have n1 : (0 : Int) < c.cs.length := by omega
  have b1 : 0 ≤ which.tmod c.cs.length ∧ which.tmod c.cs.length < c.cs.length := ⟨Int.tmod_nonneg _ h3.1, Int.tmod_lt_of_pos _ n1⟩
  repeat (first | refine VIf.tt ?_ | refine VIf.ff ?_)
  refine VFn.p (pl15 (x, y) M2) ?_
  repeat (first | refine VIf.tt ?_ | refine VIf.ff ?_)
  refine VIf.mk (fun _ => ?_) (fun q4 => ?_)
  · repeat (first | refine VIf.tt ?_ | refine VIf.ff ?_)
    exact VFact.mk rfl trivial
  have hP : placeB (x, y) = true := (Bool.not_eq_false' _).mp q4
  have bP := place_bd hP
  simp only at bP
  have bc := place_bd hF1.2.1
  have be := place_bd hF2.2.1
  simp only at bc be
  repeat (first | refine VIf.tt ?_ | refine VIf.ff ?_)
  refine VArith.ok (by first | omega | (simp only; omega)) (by first | omega | (simp only; omega)) ?_
  repeat (first | refine VIf.tt ?_ | refine VIf.ff ?_)
  refine VDiv.mk (by omega) ?_
  repeat (first | refine VIf.tt ?_ | refine VIf.ff ?_)
  refine VDraw.code ?_
  repeat (first | refine VIf.tt ?_ | refine VIf.ff ?_)
  refine VCode.draws cxOK [4, 5] (by kernel_rfl) (Mem × Nat × Nat)
    (fun s => ⟨[(4, .v (.pointer (some ⟨s.2.1, 0, none⟩))), (5, .v (.pointer (some ⟨s.2.2, 0, none⟩))), (7, .box 2 0), (9, .v (.bool true)), (10, .v (.int .i64 (which.tmod c.cs.length))), (11, .box 3 0), (12, .box 4 0)], [(2, some (.box 46 [.v (.int .i64 x), .v (.int .i64 y)])), (3, some (.box 26 (chSV c (.slice ad c.cs.length ka) (.slice bd c.bs.length kb) (.slice dd c.ls.length kd)))), (4, some (.box 26 (chSV e (.slice ad2 e.cs.length ka2) (.slice bd2 e.bs.length kb2) (.slice dd2 e.ls.length kd2))))], 5, s.1, 122, ⟨fun _ => none, none, fun _ => none⟩⟩)
    (fun s => M2.le s.1 ∧ s.1 s.2.1 = some (.cells (chC c (.slice ad c.cs.length ka) (.slice bd c.bs.length kb) (.slice dd c.ls.length kd)) 26 (0, 0)) ∧ s.1 s.2.2 = some (.cells (chC e (.slice ad2 e.cs.length ka2) (.slice bd2 e.bs.length kb2) (.slice dd2 e.ls.length kd2)) 26 (0, 0))) ?_ ?_
  · repeat (first | refine VIf.tt ?_ | refine VIf.ff ?_)
    refine VFzB.mk fun z1 B1 M6 hM6 hB1 => ?_
    repeat (first | refine VIf.tt ?_ | refine VIf.ff ?_)
    refine VFzB.mk fun z2 B2 M7 hM7 hB2 => ?_
    have hB1 : M6 B1 = some (.cells (chC c (.slice ad c.cs.length ka) (.slice bd c.bs.length kb) (.slice dd c.ls.length kd)) 26 (0, 0)) := hB1
    have hB2 : M7 B2 = some (.cells (chC e (.slice ad2 e.cs.length ka2) (.slice bd2 e.bs.length kb2) (.slice dd2 e.ls.length kd2)) 26 (0, 0)) := hB2
    repeat (first | refine VIf.tt ?_ | refine VIf.ff ?_)
    refine VReads.mk (chC c (.slice ad c.cs.length ka) (.slice bd c.bs.length kb) (.slice dd c.ls.length kd)).toList rfl (fun j u hj => cellAt (hM7 _ _ hB1) j (by simpa using hj)) ?_
    repeat (first | refine VIf.tt ?_ | refine VIf.ff ?_)
    refine VReads.mk (chC e (.slice ad2 e.cs.length ka2) (.slice bd2 e.bs.length kb2) (.slice dd2 e.ls.length kd2)).toList rfl (fun j u hj => cellAt hB2 j (by simpa using hj)) ?_
    have hc := Mem.le_refl M7
    refine VBoth.mk ?_ ?_
    · repeat (first | refine VIf.tt ?_ | refine VIf.ff ?_)
      refine VFact.mk hc ?_
      repeat (first | refine VIf.tt ?_ | refine VIf.ff ?_)
      refine VFact.mk hc ?_
      repeat (first | refine VIf.tt ?_ | refine VIf.ff ?_)
      refine VFact.mk hc ?_
      repeat (first | refine VIf.tt ?_ | refine VIf.ff ?_)
      refine VFact.mk hc ?_
      exact ⟨(M7, B1, B2), ⟨hM6.trans hM7, hM7 _ _ hB1, hB2⟩, (Wk.mk' id (by repeat' constructor) (by repeat' constructor) (injOK_id _) rfl rfl rfl)⟩
    · repeat (first | refine VIf.tt ?_ | refine VIf.ff ?_)
      refine VFact.mk hc ?_
      repeat (first | refine VIf.tt ?_ | refine VIf.ff ?_)
      refine VFact.mk hc ?_
      repeat (first | refine VIf.tt ?_ | refine VIf.ff ?_)
      refine VFact.mk hc ?_
      repeat (first | refine VIf.tt ?_ | refine VIf.ff ?_)
      refine VFact.mk hc ?_
      exact ⟨(M7, B1, B2), ⟨hM6.trans hM7, hM7 _ _ hB1, hB2⟩, (Wk.mk' (fun i => if i = 3 then 4 else if i = 4 then 3 else i) (by repeat' constructor) (by repeat' constructor) (by simp [injOK]) rfl rfl rfl)⟩
  rintro ⟨M7, B1, B2⟩ m ⟨hM7, hB1, hB2⟩
  have hM7 : M2.le M7 := hM7
  have hB1 : M7 B1 = some (.cells (chC c (.slice ad c.cs.length ka) (.slice bd c.bs.length kb) (.slice dd c.ls.length kd)) 26 (0, 0)) := hB1
  have hB2 : M7 B2 = some (.cells (chC e (.slice ad2 e.cs.length ka2) (.slice bd2 e.bs.length kb2) (.slice dd2 e.ls.length kd2)) 26 (0, 0)) := hB2
  repeat (first | refine VIf.tt ?_ | refine VIf.ff ?_)
  refine VDraw.code ?_
  repeat (first | refine VIf.tt ?_ | refine VIf.ff ?_)
  refine VCode.draws cxOK [7] (by kernel_rfl) (Mem × Nat × Nat)
    (fun s => ⟨[(4, .v (.pointer (some ⟨s.2.1, 0, none⟩))), (5, .v (.pointer (some ⟨s.2.2, 0, none⟩))), (9, .v (.bool true)), (10, .v (.int .i64 (which.tmod c.cs.length))), (11, .box 3 0), (12, .box 4 0)], [(3, some (.box 26 (chSV (movC c (x, y)) (.slice ad c.cs.length ka) (.slice bd c.bs.length kb) (.slice dd c.ls.length kd)))), (4, some (.box 26 (chSV (movC e (x, y)) (.slice ad2 e.cs.length ka2) (.slice bd2 e.bs.length kb2) (.slice dd2 e.ls.length kd2))))], 5, s.1, 122, ⟨fun _ => none, none, fun _ => none⟩⟩)
    (fun s => M2.le s.1 ∧ s.1 s.2.1 = some (.cells (chC c (.slice ad c.cs.length ka) (.slice bd c.bs.length kb) (.slice dd c.ls.length kd)) 26 (0, 0)) ∧ s.1 s.2.2 = some (.cells (chC e (.slice ad2 e.cs.length ka2) (.slice bd2 e.bs.length kb2) (.slice dd2 e.ls.length kd2)) 26 (0, 0))) ?_ ?_
  · repeat (first | refine VIf.tt ?_ | refine VIf.ff ?_)
    refine VFzB.mk fun z3 B3 M8 hM8 hB3 => ?_
    have hB3 : M8 B3 = some (.cells #[.int .i64 x, .int .i64 y] 46 (0, 0)) := hB3
    have k1 := hM8 _ _ hB1
    have k2 := hM8 _ _ hB2
    repeat (first | refine VIf.tt ?_ | refine VIf.ff ?_)
    refine VRead.mk (.int .i64 c.x) (cellAt k1 1 rfl) ?_
    repeat (first | refine VIf.tt ?_ | refine VIf.ff ?_)
    refine VRead.mk (.int .i64 x) (cellAt hB3 0 rfl) ?_
    repeat (first | refine VIf.tt ?_ | refine VIf.ff ?_)
    refine VArith.ok (by first | omega | (simp only; omega)) (by first | omega | (simp only; omega)) ?_
    repeat (first | refine VIf.tt ?_ | refine VIf.ff ?_)
    refine VRead.mk (.int .i64 c.y) (cellAt k1 2 rfl) ?_
    repeat (first | refine VIf.tt ?_ | refine VIf.ff ?_)
    refine VRead.mk (.int .i64 y) (cellAt hB3 1 rfl) ?_
    repeat (first | refine VIf.tt ?_ | refine VIf.ff ?_)
    refine VArith.ok (by first | omega | (simp only; omega)) (by first | omega | (simp only; omega)) ?_
    repeat (first | refine VIf.tt ?_ | refine VIf.ff ?_)
    refine VRead.mk (.int .i64 e.x) (cellAt k2 1 rfl) ?_
    repeat (first | refine VIf.tt ?_ | refine VIf.ff ?_)
    refine VRead.mk (.int .i64 x) (cellAt hB3 0 rfl) ?_
    repeat (first | refine VIf.tt ?_ | refine VIf.ff ?_)
    refine VArith.ok (by first | omega | (simp only; omega)) (by first | omega | (simp only; omega)) ?_
    repeat (first | refine VIf.tt ?_ | refine VIf.ff ?_)
    refine VRead.mk (.int .i64 e.y) (cellAt k2 2 rfl) ?_
    repeat (first | refine VIf.tt ?_ | refine VIf.ff ?_)
    refine VRead.mk (.int .i64 y) (cellAt hB3 1 rfl) ?_
    repeat (first | refine VIf.tt ?_ | refine VIf.ff ?_)
    refine VArith.ok (by first | omega | (simp only; omega)) (by first | omega | (simp only; omega)) ?_
    have hc := Mem.le_refl M8
    repeat (first | refine VIf.tt ?_ | refine VIf.ff ?_)
    refine VFact.mk hc ?_
    repeat (first | refine VIf.tt ?_ | refine VIf.ff ?_)
    refine VFact.mk hc ?_
    repeat (first | refine VIf.tt ?_ | refine VIf.ff ?_)
    refine VFact.mk hc ?_
    repeat (first | refine VIf.tt ?_ | refine VIf.ff ?_)
    refine VFact.mk hc ?_
    exact ⟨(M8, B1, B2), ⟨hM7.trans hM8, k1, k2⟩, (Wk.mk' id (by repeat' constructor) (by repeat' constructor) (injOK_id _) rfl rfl rfl)⟩
  rintro ⟨M8, B1, B2⟩ m2' ⟨hM8, hB1, hB2⟩
  have hM8 : M2.le M8 := hM8
  have m8 := m2.trans hM8
  have hB1 : M8 B1 = some (.cells (chC c (.slice ad c.cs.length ka) (.slice bd c.bs.length kb) (.slice dd c.ls.length kd)) 26 (0, 0)) := hB1
  have hB2 : M8 B2 = some (.cells (chC e (.slice ad2 e.cs.length ka2) (.slice bd2 e.bs.length kb2) (.slice dd2 e.ls.length kd2)) 26 (0, 0)) := hB2
  have c64 : ∀ g : ChartS, C64 g → (-1000000 ≤ g.x ∧ g.x ≤ 1000000) → (-1000000 ≤ g.y ∧ g.y ≤ 1000000) → C64 (movC g (x, y)) := fun g hg h5 h6 => ⟨hg.1, by show i64r (g.x + x); unfold i64r; omega, by show i64r (g.y + y); unfold i64r; omega, hg.2.2.2⟩
  have g1 : ∀ M', M8.le M' → Cha M' (movC c (x, y)) (.slice ad c.cs.length ka) (.slice bd c.bs.length kb) (.slice dd c.ls.length kd) := fun M' hM' => ⟨c64 c h.r (by omega) (by omega), h.cs.le (m8.trans hM'), h.bs.le (m8.trans hM'), h.ls.le (m8.trans hM')⟩
  have g2 : ∀ M', M8.le M' → Cha M' (movC e (x, y)) (.slice ad2 e.cs.length ka2) (.slice bd2 e.bs.length kb2) (.slice dd2 e.ls.length kd2) := fun M' hM' => ⟨c64 e h2.r (by omega) (by omega), h2.cs.le (m8.trans hM'), h2.bs.le (m8.trans hM'), h2.ls.le (m8.trans hM')⟩
  repeat (first | refine VIf.tt ?_ | refine VIf.ff ?_)
  refine VFn.mk _ (usable30_fn (movC c (x, y)) (movC e (x, y)) _ _ _ _ _ _ M8 (g1 M8 (Mem.le_refl _)) (g2 M8 (Mem.le_refl _))) ?_
  rintro rs M9 hM9 ⟨q', rfl, hq'⟩
  repeat (first | refine VIf.tt ?_ | refine VIf.ff ?_)
  refine VIf.mk (fun _ => ?_) (fun hu' => ?_)
  · repeat (first | refine VIf.tt ?_ | refine VIf.ff ?_)
    exact VFact.mk rfl trivial
  obtain ⟨hcm, hem⟩ := hq' ((Bool.not_eq_false' _).mp hu')
  have rC : ∀ M', M8.le M' → ∀ (j : Nat) (u : Value), (chC c (.slice ad c.cs.length ka) (.slice bd c.bs.length kb) (.slice dd c.ls.length kd)).toList[j]? = some u → M'.cell ((⟨B1, 0, none⟩ : Addr).add j) = some u := fun M' hM' j u hj => cellAt (hM' _ _ hB1) j (by simpa using hj)
  have rE : ∀ M', M8.le M' → ∀ (j : Nat) (u : Value), (chC e (.slice ad2 e.cs.length ka2) (.slice bd2 e.bs.length kb2) (.slice dd2 e.ls.length kd2)).toList[j]? = some u → M'.cell ((⟨B2, 0, none⟩ : Addr).add j) = some u := fun M' hM' j u hj => cellAt (hM' _ _ hB2) j (by simpa using hj)
  repeat (first | refine VIf.tt ?_ | refine VIf.ff ?_)
  refine VReads.mk (chC c (.slice ad c.cs.length ka) (.slice bd c.bs.length kb) (.slice dd c.ls.length kd)).toList rfl (rC M9 hM9) ?_
  repeat (first | refine VIf.tt ?_ | refine VIf.ff ?_)
  refine VReads.mk (chC e (.slice ad2 e.cs.length ka2) (.slice bd2 e.bs.length kb2) (.slice dd2 e.ls.length kd2)).toList rfl (rE M9 hM9) ?_
  repeat (first | refine VIf.tt ?_ | refine VIf.ff ?_)
  refine VFn.mk _ (Touch_ok (h.le (m8.trans hM9)) (h2.le (m8.trans hM9)) hc he (i := which.tmod c.cs.length) b1) ?_
  rintro rs M10 hM10 ⟨x1, rfl, hx1⟩
  have n10 := hM9.trans hM10
  repeat (first | refine VIf.tt ?_ | refine VIf.ff ?_)
  refine VFn.mk _ (Touch_ok (i := which.tmod c.cs.length) (g1 M10 n10) (g2 M10 n10) hcm hem b1) ?_
  rintro rs M11 hM11 ⟨x2, rfl, hx2⟩
  have n11 := n10.trans hM11
  rw [mov_touch] at hx2
  repeat (first | refine VIf.tt ?_ | refine VIf.ff ?_)
  refine VReads.mk (chC c (.slice ad c.cs.length ka) (.slice bd c.bs.length kb) (.slice dd c.ls.length kd)).toList rfl (rC M11 n11) ?_
  repeat (first | refine VIf.tt ?_ | refine VIf.ff ?_)
  refine VReads.mk (chC e (.slice ad2 e.cs.length ka2) (.slice bd2 e.bs.length kb2) (.slice dd2 e.ls.length kd2)).toList rfl (rE M11 n11) ?_
  repeat (first | refine VIf.tt ?_ | refine VIf.ff ?_)
  refine VFn.mk _ (Keeps_ok (h.le (m8.trans n11)) (h2.le (m8.trans n11)) hc he) ?_
  rintro rs M12 hM12 rfl
  have n12 := n11.trans hM12
  have fK := Keeps_ok (g1 M12 n12) (g2 M12 n12) hcm hem
  rw [mov_keeps] at fK
  repeat (first | refine VIf.tt ?_ | refine VIf.ff ?_)
  refine VFn.mk _ fK ?_
  rintro rs M13 hM13 rfl
  repeat (first | refine VIf.tt ?_ | refine VIf.ff ?_)
  repeat (first | refine VIf.tt ?_ | refine VIf.ff ?_)
  refine VFn.p (SameInts_eq (hx1.le (hM11.trans (hM12.trans hM13))) (hx2.le (hM12.trans hM13))) ?_
  repeat (first | refine VIf.tt ?_ | refine VIf.ff ?_)
  repeat (first | refine VIf.tt ?_ | refine VIf.ff ?_)
  refine VFact.mk ?_ trivial
  simp
end Go.Proofs.YtegmjmdkhbibjaaGreat.translateMoves

namespace Go.Proofs.YtegmjmdkhbibjaaGreat.translateMoves
open Go Go.V Go.RowKit Go.ChangeShapes Go.WideShapes Go.ChangeAt
set_option linter.unusedVariables false
set_option maxRecDepth 100000 in
theorem lifted (os : Os) (started : os.Started) (H : Type) (enc : TypeId × Value → H) :
    ReturnsInHanded {} Tryz.checked os 7 .any (Rows.translateMovesSpec.pre6 enc Tryz.prog Tryz.f7 Rows.translateMovesRow.domain false) (Rows.translateMovesSpec.post enc Tryz.prog Tryz.f7 false true false false) := by
  refine returnsInHanded_of_change (C := Tryz.checked) own started (by kernel_rfl) Tryz.func7
    (ChangeSpec.witness6 (enc := enc) (C := Tryz.checked) false ⟨#[], #[.agg #[.int .i64 0, .int .i64 0, .int .i64 0, .int .i64 0, .int .i64 0, .int .i64 0, .slice none 0 0, .slice none 0 0, .slice none 0 0], .agg #[.int .i64 0, .int .i64 0, .int .i64 0, .int .i64 0, .int .i64 0, .int .i64 0, .slice none 0 0, .slice none 0 0, .slice none 0 0], .int .u8 0, .agg #[.int .i64 0, .int .i64 0]], []⟩ 8 (by kernel_rfl) (by kernel_rfl) (by kernel_rfl) (by kernel_rfl)) ?_
  intro W base args ds gs before hval0 hW hcnd _
  have hval : ∀ (j : Nat) t v, Tryz.f7.params[j]? = some t → args[j]? = some v → Value.okWide Tryz.prog W .any base t v := hval0
  have hW' := hW
  obtain ⟨p, q, hA0, hV, rfl, hfz, hnd⟩ := hW
  have hA : DataW.TrodAll enc Tryz.prog W 0 (fun _ => true) true Tryz.f7.params.toList args.toList ds p := hA0
  have hA1 := hA
  rw [Tryz.params7] at hA hval
  obtain ⟨v0, vs0, d0, ds0, p0, q0, hargs, rfl, rfl, h0, r0⟩ := trodAll_cons hA
  obtain ⟨v1, vs1, d1, ds1, p1, q1, rfl, rfl, rfl, h1, r1⟩ := trodAll_cons r0
  obtain ⟨v2, vs2, d2, ds2, p2, q2, rfl, rfl, rfl, h2, r2⟩ := trodAll_cons r1
  obtain ⟨v3, vs3, d3, ds3, p3, q3, rfl, rfl, rfl, h3, r3⟩ := trodAll_cons r2
  obtain ⟨rfl, rfl, rfl⟩ := trodAll_nil r3
  obtain rfl : args = #[v0, v1, v2, v3] := by cases args; simp_all
  obtain ⟨rfl, rfl⟩ := trodVars_none hV
  obtain ⟨ag0, rfl, _⟩ := okWide_struct Tryz.underlying26 (hval 0 26 v0 rfl rfl)
  obtain ⟨fuel0, t0⟩ := h0
  obtain ⟨l0, ⟨u0, e0, g0⟩, _⟩ := opens26 _ _ _ t0
  obtain ⟨ag0⟩ := ag0
  have e0 : ag0 = _ := e0
  subst e0
  obtain ⟨ag1, rfl, _⟩ := okWide_struct Tryz.underlying26 (hval 1 26 v1 rfl rfl)
  obtain ⟨fuel1, t1⟩ := h1
  obtain ⟨l1, ⟨u1, e1, g1⟩, _⟩ := opens26 _ _ _ t1
  obtain ⟨ag1⟩ := ag1
  have e1 : ag1 = _ := e1
  subst e1
  obtain ⟨l2, rfl, rfl, rfl, k2⟩ := open_int Tryz.underlying5 (hval 2 5 v2 rfl rfl) h2
  obtain ⟨ag3, rfl, _⟩ := okWide_struct Tryz.underlying46 (hval 3 46 v3 rfl rfl)
  obtain ⟨fuel3, t3⟩ := h3
  obtain ⟨l3, ⟨e3, k3, m3⟩, _⟩ := opens46 _ _ _ t3
  obtain ⟨ag3⟩ := ag3
  have e3 : ag3 = _ := e3
  subst e3
  simp only [List.append_nil] at hW' hA1
  refine ((law_fn l0 u0 l1 u1 l2 l3.1 l3.2 (memOf W) g0 g1 (wf_u8 k2) (k3) (m3)).2 W (memOf_ok W)).mono fun e W' ⟨rs, M', he, hb, _, _, _, hr⟩ => ?_
  subst he hr
  exact ⟨_, rfl, post_of_below laid (by rw [Tryz.params7]; exact of_decide_eq_true (by kernel_rfl)) rfl hW' hA1
    (fun _ _ _ => (trodAll_cons_mk (shut_bool Tryz.underlying4 _) trodAll_mk0)) rfl rfl hb (ok_one (by kernel_rfl) rfl (okWide_bool_mk Tryz.underlying4 _))⟩

/-- The statement. -/
theorem proved : Rows.TranslateMovesSaid :=
  OpenClaim.holds_of_wide 7 Tryz.f7 rfl rfl rfl rfl rfl rfl rfl ⟨rfl, rfl, rfl, rfl, rfl⟩ rfl rfl rfl rfl rfl (by kernel_rfl) Tryz.func7 (by kernel_rfl)
    (of_decide_eq_true (by kernel_rfl)) (by unfold Func.isWrapper; first | (rw [if_pos (by decide +kernel)]; kernel_rfl) | (rw [if_neg (by decide +kernel)]; exact ⟨rfl, rfl⟩))
    (fun os started H enc _ => lifted os started H enc)
#print axioms proved
end Go.Proofs.YtegmjmdkhbibjaaGreat.translateMoves
