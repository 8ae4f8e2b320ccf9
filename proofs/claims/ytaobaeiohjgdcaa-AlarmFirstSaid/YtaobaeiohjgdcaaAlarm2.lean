/- AlarmFirst: before the first alarm none is raised, it is that of its belief, and beliefs after it play no part. No conditions beyond the statement's own. -/
import Derived.Test.YtaobaeiohjgdcaaE2
namespace Go.Proofs.Ytaobaeiohjgdcaa.alarmFirst
open Go Go.V Go.RowKit Go.ChangeShapes Go.WideShapes Go.ChangeAt
theorem first_index (p : Nat → Prop) : ∀ N : Nat, ∃ n, n ≤ N ∧ (∀ j, j < n → ¬ p j) ∧ (n = N ∨ p n)
  | 0 => ⟨0, Nat.le_refl _, fun j hj => by omega, .inl rfl⟩
  | N + 1 => by
    obtain ⟨n, h1, h2, h3⟩ := first_index p N
    by_cases hp : p n
    · exact ⟨n, by omega, h2, .inr hp⟩
    · have hn : n = N := h3.resolve_right hp
      subst hn
      refine ⟨n + 1, Nat.le_refl _, fun j hj => ?_, .inl rfl⟩
      by_cases e : j = n
      · subst e; exact hp
      · exact h2 j (by omega)
theorem gb_take {bs : List BelS} {m i : Nat} (h : i < m) : gb (bs.take m) i = gb bs i := by simp [gb, List.getElem?_take, h]
theorem bel_take {bs : List BelS} (h : belB bs = true) {m : Nat} (hm : m ≤ bs.length) : belB (bs.take m) = true := by
  refine all_true fun i hi => ?_
  have hi' : i < m := by rw [List.length_take] at hi; omega
  have := all_iff.1 h i (by omega)
  unfold belV at this ⊢
  have e : lastT (bs.take m) i = lastT bs i := by
    cases i with
    | zero => rfl
    | succ i => exact congrArg BelS.t (gb_take (by omega))
  rw [e, gb_take hi']
  exact this
theorem raise_of {cs : List CaseS} {q : List Pt} (h1 : casesB cs = true) (h2 : validB q = true) : raiseB cs q = (kindB cs q, 0) := by rw [raiseB, h1, h2]; rfl
theorem first_bad {bs : List BelS} {q : List Pt} {k kind e : Int} (h : firstB bs q = (k, kind, e)) (he : e ≠ 0) : k = 0 ∧ kind = 0 := by
  unfold firstB at h
  split at h
  · cases h; exact ⟨rfl, rfl⟩
  · split at h
    · cases h; exact absurd rfl he
    · cases h; exact ⟨rfl, rfl⟩
theorem first_facts {bs : List BelS} {q : List Pt} {k kind : Int} (h8 : bs.length ≤ 8) (h : firstB bs q = (k, kind, 0)) :
    ∃ n : Nat, k = n ∧ n ≤ bs.length ∧ (∀ j, j < n → raiseB (gb bs j).cs q = (0, 0)) ∧ (n = bs.length → kind = 0) ∧ (n < bs.length → raiseB (gb bs n).cs q = (kind, 0) ∧ kind ≠ 0 ∧ firstB (bs.take (n + 1)) q = ((n : Int), kind, 0)) := by
  have hb : (belB bs && validB q) = true := by
    unfold firstB at h
    rw [if_neg (by omega)] at h
    split at h
    · assumption
    · cases h
  simp only [Bool.and_eq_true] at hb
  obtain ⟨hb, hq⟩ := hb
  rw [first_ok (by omega) hb hq] at h
  simp only [Prod.mk.injEq] at h
  obtain ⟨n, h1, h2, h3⟩ := first_index (fun j => kindB (gb bs j).cs q ≠ 0) bs.length
  have h2 : ∀ j, j < n → kindB (gb bs j).cs q = 0 := fun j hj => Classical.byContradiction (h2 j hj)
  have hbef : ∀ j, j < n → raiseB (gb bs j).cs q = (0, 0) := fun j hj => by rw [raise_of (bel_cases hb (by omega)) hq, h2 j hj]
  by_cases e : n = bs.length
  · subst e
    rw [fst_none h2] at h
    exact ⟨bs.length, h.1.symm, h1, hbef, fun _ => h.2.1.symm, fun hlt => absurd hlt (Nat.lt_irrefl _)⟩
  · have hk := h3.resolve_left e
    have hlt : n < bs.length := by omega
    rw [fst_here hlt h2 hk] at h
    obtain ⟨rfl, rfl, _⟩ := h
    refine ⟨n, rfl, h1, hbef, fun e' => absurd e' e, fun _ => ⟨raise_of (bel_cases hb hlt) hq, hk, ?_⟩⟩
    have hl : (bs.take (n + 1)).length = n + 1 := by rw [List.length_take]; omega
    rw [first_ok (by omega) (bel_take hb (by omega)) hq, fst_here (i := n) (by omega) (fun j hj => by rw [gb_take (by omega)]; exact h2 j hj) (by rw [gb_take (by omega)]; exact hk), gb_take (by omega)]
theorem flat_len {k : Nat} : ∀ rows : List (List Value), (∀ r ∈ rows, r.length = k) → rows.flatten.length = rows.length * k
  | [], _ => by simp
  | r :: rows, h => by
    rw [List.flatten_cons, List.length_append, flat_len rows (fun r hr => h r (List.mem_cons_of_mem _ hr)), h r (List.mem_cons_self), List.length_cons, Nat.add_mul]; omega
theorem Arr.take {α : Type} {D : Mem → α → List Value → Prop} {M : Mem} {k : Nat} {a : Option Addr} {n c : Nat} {l : List α} (h : Arr D M k (.slice a n c) l) {m : Nat} (hm : m ≤ l.length) : Arr D M k (.slice a m c) (l.take m) := by
  obtain ⟨rows, h1, h2, ⟨a', c', he, hc, hmx, hl, ho, hcell⟩, h4⟩ := h
  simp only [Value.slice.injEq] at he
  obtain ⟨rfl, rfl, rfl⟩ := he
  have h2' : ∀ r ∈ rows.take m, r.length = k := fun r hr => h2 r (List.mem_of_mem_take hr)
  have hlen : (l.take m).length = m := by rw [List.length_take]; omega
  have hfl : ∀ j v, (rows.take m).flatten[j]? = some v → rows.flatten[j]? = some v := fun j v hj => by
    conv => lhs; rw [← List.take_append_drop m rows]
    rw [List.flatten_append, List.getElem?_append_left (List.getElem?_eq_some_iff.1 hj).1]
    exact hj
  refine ⟨rows.take m, by rw [List.length_take, List.length_take, h1], h2', ⟨a, c, by rw [hlen], by rw [hlen]; omega, hmx, ?_, ?_, ?_⟩, ?_⟩
  · rw [flat_len _ h2', List.length_take, List.length_take, h1]
  · intro v hv
    obtain ⟨r, hr, hv⟩ := List.mem_flatten.1 hv
    exact ho v (List.mem_flatten.2 ⟨r, List.mem_of_mem_take hr, hv⟩)
  · intro hpos
    obtain ⟨ad, rfl, hrd⟩ := hcell (by rw [List.length_take] at hpos; omega)
    exact ⟨ad, rfl, fun j v hj => hrd j v (hfl j v hj)⟩
  · intro i x r hx hr
    rw [List.getElem?_take] at hx hr
    split at hx
    · rename_i hi
      rw [if_pos hi] at hr
      exact h4 i x r hx hr
    · cases hx
theorem Arr.cap {α : Type} {D : Mem → α → List Value → Prop} {M : Mem} {k : Nat} {a : Option Addr} {n c : Nat} {l : List α} (h : Arr D M k (.slice a n c) l) : n = l.length ∧ n ≤ c ∧ c ≤ maxLen := by
  obtain ⟨rows, h1, h2, ⟨a', c', he, hc, hmx, _⟩, h4⟩ := h
  simp only [Value.slice.injEq] at he
  obtain ⟨rfl, rfl, rfl⟩ := he
  exact ⟨rfl, hc, hmx⟩
set_option maxHeartbeats 4000000 in
theorem law_fn (v0 v1 : Value) (bs : List BelS) (q : List Pt) (M : Mem) (h0 : BelsV M v0 bs) (h1 : Pts M v1 q) (h64 : i64P q) : V.Fn Try.prog 4 [v0, v1] M fun rs _ => rs = [.bool true] := by
  obtain ⟨ad, c, rfl, hm, hrd⟩ := h0.get
  obtain ⟨_, hcap, hmx⟩ := Arr.cap h0
  unfold maxLen at hmx
  refine Fn.of_vc cxOK Try.func4 rfl rfl rfl ?_
  repeat (first | refine VIf.tt ?_ | refine VIf.ff ?_)
  refine VFn.mk _ (head_fn M) ?_
  rintro rs M1 hM1 rfl
  repeat (first | refine VIf.tt ?_ | refine VIf.ff ?_)
  refine VIf.mk (fun _ => ?_) (fun h8 => ?_)
  · repeat (first | refine VIf.tt ?_ | refine VIf.ff ?_)
    exact VFact.mk rfl trivial
  have h8 : bs.length ≤ 8 := by have := of_decide_eq_false h8; omega
  repeat (first | refine VIf.tt ?_ | refine VIf.ff ?_)
  refine VFn.mk _ (Few23_fn _ bs M1 (h0.le hM1)) ?_
  rintro rs M2 hM2 ⟨b2, rfl⟩
  repeat (first | refine VIf.tt ?_ | refine VIf.ff ?_)
  refine VIf.mk (fun _ => ?_) (fun _ => ?_)
  · repeat (first | refine VIf.tt ?_ | refine VIf.ff ?_)
    exact VFact.mk rfl trivial
  repeat (first | refine VIf.tt ?_ | refine VIf.ff ?_)
  refine VFn.p (Few03_fn v1 q M2 (h1.le (hM1.trans hM2))) ?_
  repeat (first | refine VIf.tt ?_ | refine VIf.ff ?_)
  refine VIf.mk (fun _ => ?_) (fun _ => ?_)
  · repeat (first | refine VIf.tt ?_ | refine VIf.ff ?_)
    exact VFact.mk rfl trivial
  have m2 : M.le M2 := hM1.trans hM2
  repeat (first | refine VIf.tt ?_ | refine VIf.ff ?_)
  refine VFn.mk _ (First_fn _ v1 bs q M2 (h0.le m2) (h1.le m2) h64) ?_
  rintro rs M3 hM3 rfl
  have m3 : M.le M3 := m2.trans hM3
  obtain ⟨⟨k, kind, e⟩, hf⟩ : ∃ r, firstB bs q = r := ⟨_, rfl⟩
  rw [hf]
  repeat (first | refine VIf.tt ?_ | refine VIf.ff ?_)
  refine VIf.mk (fun he => ?_) (fun he => ?_)
  · obtain ⟨rfl, rfl⟩ := first_bad hf (bne_iff_ne.1 he)
    repeat (first | refine VIf.tt ?_ | refine VIf.ff ?_)
    exact VFact.mk rfl trivial
  have he : e = 0 := bne_eq_false_iff_eq.1 he
  subst he
  obtain ⟨n, rfl, hn, hbef, hend, hhit⟩ := first_facts h8 hf
  repeat (first | refine VIf.tt ?_ | refine VIf.ff ?_)
  refine VIf.mk (fun hbig => ?_) (fun _ => ?_)
  · have := of_decide_eq_true hbig; omega
  repeat (first | refine VIf.tt ?_ | refine VIf.ff ?_)
  refine VCode.loop cxOK (Nat × Mem) (fun s => ⟨[(0, .v (.slice ad bs.length c)), (1, .v v1), (5, .v (.bool true)), (6, .v (.int .i64 n)), (7, .v (.int .i64 kind)), (58, .v (.int .i64 n)), (59, .v (.int .i64 s.1))], [], 0, s.2, 139, ⟨fun _ => none, none, fun _ => none⟩⟩)
    (fun s => M.le s.2 ∧ s.1 ≤ n) (fun s => n - s.1) (0, M3) ⟨m3, Nat.zero_le _⟩ (Wk.mk' id (by repeat' constructor) (by repeat' constructor) (injOK_id _) rfl rfl rfl) ?_
  rintro ⟨i, M4⟩ ⟨m4, hi⟩ m
  have m4 : M.le M4 := m4
  have hi : i ≤ n := hi
  repeat (first | refine VIf.tt ?_ | refine VIf.ff ?_)
  refine VIf.mk (fun hlt => ?_) (fun hge => ?_)
  · have hlt : i < n := lt_of_dec hlt
    obtain ⟨ad', u, rfl, _, hu, hc1⟩ := hrd M4 m4 i (by omega)
    repeat (first | refine VIf.tt ?_ | refine VIf.ff ?_)
    refine VIdx.mk ad' i rfl rfl (by omega) ?_
    repeat (first | refine VIf.tt ?_ | refine VIf.ff ?_)
    refine VRead.mk u (hc1 1 _ rfl) ?_
    repeat (first | refine VIf.tt ?_ | refine VIf.ff ?_)
    refine VFn.mk _ (Raise_fn u v1 _ q M4 hu (h1.le m4) h64) ?_
    rintro rs M5 hM5 rfl
    rw [hbef i hlt]
    repeat (first | refine VIf.tt ?_ | refine VIf.ff ?_)
    refine VArith.ok (by first | omega | (simp only; omega)) (by first | omega | (simp only; omega)) ?_
    exact ⟨(i + 1, M5), ⟨m4.trans hM5, hlt⟩, (by first | omega | (simp only; omega)), (Wk.mk' id (by repeat' constructor) (by repeat' constructor) (injOK_id _) rfl rfl rfl)⟩
  · have : i = n := by have := ge_of_dec hge; omega
    subst this
    repeat (first | refine VIf.tt ?_ | refine VIf.ff ?_)
    refine VIf.mk (fun hl => ?_) (fun hl => ?_)
    · have hl : i = bs.length := by have : (i : Int) = bs.length := by simpa using hl
                                    omega
      have := hend hl
      subst this
      repeat (first | refine VIf.tt ?_ | refine VIf.ff ?_)
      exact VFact.mk rfl trivial
    · have hl : i < bs.length := by
        have : ¬ ((i : Int) = bs.length) := by simpa using hl
        omega
      obtain ⟨hr, hk, hft⟩ := hhit hl
      obtain ⟨ad', u, rfl, _, hu, hc1⟩ := hrd M4 m4 i hl
      repeat (first | refine VIf.tt ?_ | refine VIf.ff ?_)
      refine VIdx.mk ad' i rfl rfl hl ?_
      repeat (first | refine VIf.tt ?_ | refine VIf.ff ?_)
      refine VRead.mk u (hc1 1 _ rfl) ?_
      repeat (first | refine VIf.tt ?_ | refine VIf.ff ?_)
      refine VFn.mk _ (Raise_fn u v1 _ q M4 hu (h1.le m4) h64) ?_
      rintro rs M5 hM5 rfl
      rw [hr]
      have m5 : M.le M5 := m4.trans hM5
      repeat (first | refine VIf.tt ?_ | refine VIf.ff ?_)
      refine VArith.ok (by first | omega | (simp only; omega)) (by first | omega | (simp only; omega)) ?_
      repeat (first | refine VIf.tt ?_ | refine VIf.ff ?_)
      refine VBnd.mk (i + 1) rfl (by omega) ?_
      repeat (first | refine VIf.tt ?_ | refine VIf.ff ?_)
      refine VFn.mk _ (First_fn _ v1 (bs.take (i + 1)) q M5 (Arr.take (h0.le m5) hl) (h1.le m5) h64) ?_
      rintro rs M6 hM6 rfl
      rw [hft]
      have no : ∀ {x : Int} {K : Prop}, (x == x) = false → K := fun {x} _ h => by simp at h
      repeat (first | refine VIf.tt ?_ | refine VIf.ff ?_)
      refine VIf.mk (fun _ => ?_) no
      repeat (first | refine VIf.tt ?_ | refine VIf.ff ?_)
      refine VIf.mk (fun _ => ?_) (fun h => absurd (bne_eq_false_iff_eq.1 h) hk)
      repeat (first | refine VIf.tt ?_ | refine VIf.ff ?_)
      refine VIf.mk (fun _ => ?_) no
      repeat (first | refine VIf.tt ?_ | refine VIf.ff ?_)
      refine VFact.mk ?_ trivial
      show [Value.bool (kind == kind)] = _
      simp
end Go.Proofs.Ytaobaeiohjgdcaa.alarmFirst
