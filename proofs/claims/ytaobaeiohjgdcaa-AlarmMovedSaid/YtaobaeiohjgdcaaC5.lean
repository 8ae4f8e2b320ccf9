/- Contracts: hull.Valid. -/
import Derived.Test.YtaobaeiohjgdcaaC4
namespace Go.Proofs.Ytaobaeiohjgdcaa
open Go Go.V Go.RowKit
/-- A point of a list, read. -/
theorem Pts.read {M : Mem} {ad : Addr} {ps : List Pt} (hrd : ∀ (j : Nat) (v : Value), (cellsP ps)[j]? = some v → M.cell (ad.add j) = some v) {k : Nat} (hk : k < ps.length) :
    ∀ j v, [Value.int .i64 (gp ps k).1, .int .i64 (gp ps k).2][j]? = some v → M.cell ((ad.add (k * 2)).add j) = some v := by
  intro j v hj
  obtain ⟨g1, g2⟩ := cellsP_get ps k hk
  rw [show (ad.add (k * 2)).add j = ad.add (2 * k + j) by rw [Addr.add_add]; congr 1; omega]
  refine hrd _ _ ?_
  match j, hj with
  | 0, hj => rw [← hj]; exact g1
  | 1, hj => rw [← hj]; exact g2
  | j + 2, hj => simp at hj

theorem injOK_id : ∀ (l : List (Nat × Option OE)), injOK id l
  | [] => trivial
  | (i, _) :: l => ⟨fun j _ => by by_cases h : i = j; exact .inl h; exact .inr h, injOK_id l⟩
/-- What the cells of a slice of points say, in whatever memory comes. -/
theorem Pts.cellsOf {M : Mem} {ad : Option Addr} {n c : Nat} {ps : List Pt} (h : Pts M (.slice ad n c) ps) : n = ps.length ∧ n ≤ maxLen ∧ ∀ M', M.le M' → ∀ k, k < ps.length → ∃ ad', ad = some ad' ∧ ∀ j v, [Value.int .i64 (gp ps k).1, .int .i64 (gp ps k).2][j]? = some v → M'.cell ((ad'.add (k * 2)).add j) = some v := by
  obtain ⟨ad, c, he, hc, hm, hl, h1, hcell⟩ := h
  cases he
  refine ⟨rfl, by omega, fun M' hM k hk => ?_⟩
  obtain ⟨ad', rfl, hrd⟩ := hcell (by omega)
  exact ⟨ad', rfl, fun j v hj => Mem.cell_le hM (Pts.read hrd hk j v hj)⟩
theorem Pts.shape {M : Mem} {v : Value} {ps : List Pt} (h : Pts M v ps) : ∃ ad c, v = .slice ad ps.length c := let ⟨ad, c, he, _⟩ := h; ⟨ad, c, he⟩

theorem sidesL_get {ps : List Pt} {k : Nat} {args : List Value} (h : (sidesL ps)[k]? = some args) : k < ps.length ∧ args = [ptv (gp ps k), ptv (gp ps ((k + 1) % ps.length))] := by
  simp only [sidesL, List.getElem?_map] at h
  cases hr : (List.range ps.length)[k]? with
  | none => rw [hr] at h; cases h
  | some i =>
    rw [hr] at h
    simp only [Option.map_some, Option.some.injEq] at h
    obtain ⟨h1, h2⟩ := List.getElem?_eq_some_iff.1 hr
    simp at h1 h2
    subst h2
    exact ⟨h1, h.symm⟩
theorem Valid_fn (v : Value) (ps : List Pt) (M : Mem) (hv : Pts M v ps) (hi64 : i64P ps) : V.Fn Try.prog 25 [v] M fun rs _ => rs = [.bool (validB ps)] := by
  obtain ⟨ad, c, rfl⟩ := hv.shape
  obtain ⟨_, hm, hrd⟩ := hv.cellsOf
  unfold maxLen at hm
  refine Fn.of_vc cxOK Try.func25 rfl rfl rfl ?_
  repeat (first | refine VIf.tt ?_ | refine VIf.ff ?_)
  refine VIf.mk (fun hlt => ?_) (fun hge0 => ?_)
  · repeat (first | refine VIf.tt ?_ | refine VIf.ff ?_)
    repeat (first | refine VIf.tt ?_ | refine VIf.ff ?_)
    refine VFact.mk ?_ trivial
    have : ps.length = 0 := by simp at hlt; omega
    simp [validB, this]
  repeat (first | refine VIf.tt ?_ | refine VIf.ff ?_)
  repeat (first | refine VIf.tt ?_ | refine VIf.ff ?_)
  refine VIf.mk (fun hgt => ?_) (fun hle => ?_)
  · repeat (first | refine VIf.tt ?_ | refine VIf.ff ?_)
    repeat (first | refine VIf.tt ?_ | refine VIf.ff ?_)
    refine VFact.mk ?_ trivial
    have : 64 < ps.length := by simp at hgt; omega
    simp [validB]; omega
  repeat (first | refine VIf.tt ?_ | refine VIf.ff ?_)
  repeat (first | refine VIf.tt ?_ | refine VIf.ff ?_)
  refine VCode.loop cxOK (Nat × Mem)
    (fun s => ⟨[(1, .box 0 0), (2, .box 1 0), (17, .v (.slice ad ps.length c)), (18, .v (.int .i64 ps.length)), (19, .v (.int .i64 s.1))], [(1, some (.box 4 [.v (.bool false)])), (0, some (.box 24 [.v (.slice ad ps.length c)]))], 2, s.2, 69, ⟨fun _ => none, none, fun _ => none⟩⟩)
    (fun s => M.le s.2 ∧ s.1 ≤ ps.length ∧ ∀ j, j < s.1 → v1B ps j = true) (fun s => ps.length - s.1) (0, M) ⟨Mem.le_refl _, Nat.zero_le _, fun j hj => by omega⟩ ?_ ?_
  · exact Wk.mk' id ⟨⟨rfl, rfl⟩, ⟨rfl, rfl⟩, ⟨rfl, rfl⟩, ⟨rfl, rfl⟩, ⟨rfl, rfl⟩, trivial⟩ ⟨⟨rfl, rfl, ⟨rfl, rfl⟩, trivial⟩, ⟨rfl, rfl, ⟨rfl, rfl⟩, trivial⟩, trivial⟩ (injOK_id _) rfl rfl rfl
  rintro ⟨i, M1⟩ ⟨hM1, hi, hz⟩ m
  repeat (first | refine VIf.tt ?_ | refine VIf.ff ?_)
  refine VIf.mk (fun hlt => ?_) (fun hge => ?_)
  · have hlt : i < ps.length := by simpa using hlt
    obtain ⟨ad', rfl, hpi⟩ := hrd M1 hM1 i hlt
    repeat (first | refine VIf.tt ?_ | refine VIf.ff ?_)
    refine VIdx.mk ad' i rfl rfl hlt ?_
    repeat (first | refine VIf.tt ?_ | refine VIf.ff ?_)
    refine VReads.mk [.int .i64 (gp ps i).1, .int .i64 (gp ps i).2] rfl hpi ?_
    repeat (first | refine VIf.tt ?_ | refine VIf.ff ?_)
    refine VDraw.go (by kernel_rfl) ?_
    repeat (first | refine VIf.tt ?_ | refine VIf.ff ?_)
    refine VFn.p (isPlace_fn _ _ _ (hi64 i hlt).1 (hi64 i hlt).2) ?_
    repeat (first | refine VIf.tt ?_ | refine VIf.ff ?_)
    refine VIf.mk (fun hnp => ?_) (fun hp => ?_)
    · repeat (first | refine VIf.tt ?_ | refine VIf.ff ?_)
      repeat (first | refine VIf.tt ?_ | refine VIf.ff ?_)
      refine VFact.mk ?_ trivial
      have : v1B ps i = false := by simp [v1B, placeB] at hnp ⊢; intro a b; simp_all
      simp [validB, all_false hlt this]
    have hp : placeB (gp ps i) = true := by simpa [placeB] using hp
    repeat (first | refine VIf.tt ?_ | refine VIf.ff ?_)
    repeat (first | refine VIf.tt ?_ | refine VIf.ff ?_)
    refine VIf.mk (fun hi0 => ?_) (fun hi0 => ?_)
    · have hi0 : 0 < i := by simp at hi0; omega
      repeat (first | refine VIf.tt ?_ | refine VIf.ff ?_)
      obtain ⟨ad2, he2, hp0⟩ := hrd M1 hM1 0 (by omega)
      cases he2
      repeat (first | refine VIf.tt ?_ | refine VIf.ff ?_)
      refine VIdx.mk ad' 0 rfl rfl (by omega) ?_
      repeat (first | refine VIf.tt ?_ | refine VIf.ff ?_)
      repeat (first | refine VIf.tt ?_ | refine VIf.ff ?_)
      refine VReads.mk [.int .i64 (gp ps 0).1, .int .i64 (gp ps 0).2] rfl hp0 ?_
      repeat (first | refine VIf.tt ?_ | refine VIf.ff ?_)
      repeat (first | refine VIf.tt ?_ | refine VIf.ff ?_)
      refine VFn.mk _ (compare_fn _ _ _ _ _) ?_
      rintro rs M' hM rfl
      repeat (first | refine VIf.tt ?_ | refine VIf.ff ?_)
      repeat (first | refine VIf.tt ?_ | refine VIf.ff ?_)
      refine VIf.mk (fun hc => ?_) (fun hc => ?_)
      · repeat (first | refine VIf.tt ?_ | refine VIf.ff ?_)
        repeat (first | refine VIf.tt ?_ | refine VIf.ff ?_)
        refine VFact.mk ?_ trivial
        have hcc : ¬ cmpPt (gp ps 0) (gp ps i) < 0 := by simp [cmpPt] at hc ⊢; exact hc
        have : v1B ps i = false := by simp [v1B, hcc, Nat.ne_of_gt hi0]
        simp [validB, all_false hlt this]
      · repeat (first | refine VIf.tt ?_ | refine VIf.ff ?_)
        repeat (first | refine VIf.tt ?_ | refine VIf.ff ?_)
        refine VArith.ok (by simp only; omega) (by simp only; omega) ?_
        refine ⟨(i + 1, M'), ⟨hM1.trans hM, hlt, fun j hj => ?_⟩, by simp only; omega, Wk.mk' id ⟨⟨rfl, rfl⟩, ⟨rfl, rfl⟩, ⟨rfl, rfl⟩, ⟨rfl, rfl⟩, ⟨rfl, rfl⟩, trivial⟩ ⟨⟨rfl, rfl, ⟨rfl, rfl⟩, trivial⟩, ⟨rfl, rfl, ⟨rfl, rfl⟩, trivial⟩, trivial⟩ (injOK_id _) rfl rfl rfl⟩
        by_cases hji : j = i
        · subst hji
          have hcc : cmpPt (gp ps 0) (gp ps j) < 0 := by simp [cmpPt] at hc ⊢; exact hc
          simp [v1B, hp, hcc]
        · exact hz j (by simp only at hj ⊢; omega)
    · repeat (first | refine VIf.tt ?_ | refine VIf.ff ?_)
      repeat (first | refine VIf.tt ?_ | refine VIf.ff ?_)
      refine VArith.ok (by simp only; omega) (by simp only; omega) ?_
      refine ⟨(i + 1, M1), ⟨hM1, hlt, fun j hj => ?_⟩, by simp only; omega, Wk.mk' id ⟨⟨rfl, rfl⟩, ⟨rfl, rfl⟩, ⟨rfl, rfl⟩, ⟨rfl, rfl⟩, ⟨rfl, rfl⟩, trivial⟩ ⟨⟨rfl, rfl, ⟨rfl, rfl⟩, trivial⟩, ⟨rfl, rfl, ⟨rfl, rfl⟩, trivial⟩, trivial⟩ (injOK_id _) rfl rfl rfl⟩
      by_cases hji : j = i
      · subst hji
        have : j = 0 := by simp at hi0; omega
        simp only [v1B, hp, Bool.true_and, Bool.or_eq_true, beq_iff_eq]
        exact .inl this
      · exact hz j (by simp only at hj ⊢; omega)
  have hin : i = ps.length := by
    have : ¬ ((i : Int) < (ps.length : Int)) := by simpa using hge
    simp only at hi
    omega
  subst hin
  have hall : (List.range ps.length).all (v1B ps) = true := all_true hz
  have hC : ∀ k, k < ps.length → isC (gp ps k).1 ∧ isC (gp ps k).2 := fun k hk => by
    have := hz k hk
    simp only [v1B, placeB, Bool.and_eq_true] at this
    exact ⟨isCb_iff.1 this.1.1, isCb_iff.1 this.1.2⟩
  have hn1 : 1 ≤ ps.length := by simp at hge0; omega
  have hn64 : ps.length ≤ 64 := by simp at hle; omega
  repeat (first | refine VIf.tt ?_ | refine VIf.ff ?_)
  refine VIf.mk (fun h3 => ?_) (fun h3 => ?_)
  · repeat (first | refine VIf.tt ?_ | refine VIf.ff ?_)
    repeat (first | refine VIf.tt ?_ | refine VIf.ff ?_)
    refine VFact.mk ?_ trivial
    have : ps.length < 3 := by simp at h3; omega
    simp [validB, hall, hn1, hn64, this]
  repeat (first | refine VIf.tt ?_ | refine VIf.ff ?_)
  have h3 : ¬ ps.length < 3 := by simp at h3; omega
  repeat (first | refine VIf.tt ?_ | refine VIf.ff ?_)
  refine VFn.mk _ (sides_fn _ _ _ _) ?_
  rintro rs M2 hM2 ⟨B, rfl, hB⟩
  have hM2 : M.le M2 := hM1.trans hM2
  repeat (first | refine VIf.tt ?_ | refine VIf.ff ?_)
  refine VCode.rangeB cxOK rfl (sides_iter M2 B _ ps hB (hv.le hM2)) (fun x hx => ?_) [(1, .box 0 0), (2, .box 1 0)] rfl (by kernel_rfl) (by kernel_rfl) Mem
    (fun k s => ⟨[(1, .box 0 0), (2, .box 1 0)], [(1, some (.box 4 [.v (.bool false)])), (0, some (.box 24 [.v (.slice ad ps.length c)]))], 2, s, 69, ⟨fun _ => none, none, fun _ => none⟩⟩)
    (fun k s => M2.le s ∧ ∀ j, j < k → v3B ps j = true) M2 ⟨Mem.le_refl _, fun j hj => by omega⟩ ?_ (fun k s => ⟨rfl, rfl⟩) ?_ ?_
  · simp only [sidesL, List.mem_map] at hx
    obtain ⟨k, _, rfl⟩ := hx
    rfl
  · exact Wk.mk' id ⟨⟨rfl, rfl⟩, ⟨rfl, rfl⟩, trivial⟩ ⟨⟨rfl, rfl, ⟨rfl, rfl⟩, trivial⟩, ⟨rfl, rfl, ⟨rfl, rfl⟩, trivial⟩, trivial⟩ (injOK_id _) rfl rfl rfl
  · rintro k M3 args ⟨hM3, hz3⟩ hxs m f
    obtain ⟨hk, rfl⟩ := sidesL_get hxs
    have hM3' : M2.le M3 := hM3
    have hM3 : M.le M3 := hM2.trans hM3
    have hk' : (k + 1) % ps.length < ps.length := Nat.mod_lt _ (by omega)
    intro m'
    repeat (first | refine VIf.tt ?_ | refine VIf.ff ?_)
    refine VCode.loop cxOK (Nat × Mem)
      (fun s => ⟨[(1, .box 0 0), (2, .box 1 0), (5, .box 2 0), (6, .box 3 0), (47, .v (.slice ad ps.length c)), (48, .v (.int .i64 ps.length)), (49, .v (.int .i64 s.1))],
        [(3, some (.box 39 [.v (.int .i64 (gp ps ((k + 1) % ps.length)).1), .v (.int .i64 (gp ps ((k + 1) % ps.length)).2)])), (2, some (.box 39 [.v (.int .i64 (gp ps k).1), .v (.int .i64 (gp ps k).2)])), (1, some (.box 4 [.v (.bool false)])), (0, some (.box 24 [.v (.slice ad ps.length c)]))], 4, s.2, 69, ⟨fun _ => none, none, fun _ => none⟩⟩)
      (fun s => M3.le s.2 ∧ s.1 ≤ ps.length ∧ ∀ j, j < s.1 → v2B (gp ps k) (gp ps ((k + 1) % ps.length)) (gp ps j) = true) (fun s => ps.length - s.1) (0, M3) ⟨Mem.le_refl _, Nat.zero_le _, fun j hj => by omega⟩ ?_ ?_
    · exact Wk.mk' id ⟨⟨rfl, rfl⟩, ⟨rfl, rfl⟩, ⟨rfl, rfl⟩, ⟨rfl, rfl⟩, ⟨rfl, rfl⟩, ⟨rfl, rfl⟩, ⟨rfl, rfl⟩, trivial⟩ ⟨⟨rfl, rfl, ⟨rfl, rfl⟩, ⟨rfl, rfl⟩, trivial⟩, ⟨rfl, rfl, ⟨rfl, rfl⟩, ⟨rfl, rfl⟩, trivial⟩, ⟨rfl, rfl, ⟨rfl, rfl⟩, trivial⟩, ⟨rfl, rfl, ⟨rfl, rfl⟩, trivial⟩, trivial⟩ (injOK_id _) rfl rfl rfl
    rintro ⟨i, M4⟩ ⟨hM4, hi4, hz4⟩ m4
    have hM4' : M3.le M4 := hM4
    have hM4 : M.le M4 := hM3.trans hM4
    have step : ∀ {f : Nat → Bool} (i : Nat), (∀ j, j < i → f j = true) → f i = true → ∀ j, j < i + 1 → f j = true := fun i h hi j hj => by
      by_cases e : j = i
      · rw [e]; exact hi
      · exact h j (by omega)
    repeat (first | refine VIf.tt ?_ | refine VIf.ff ?_)
    refine VIf.mk (fun hlt => ?_) (fun hge => ?_)
    · have hlt : i < ps.length := by simpa using hlt
      obtain ⟨ad', rfl, hpi⟩ := hrd M4 hM4 i hlt
      repeat (first | refine VIf.tt ?_ | refine VIf.ff ?_)
      refine VIdx.mk ad' i rfl rfl hlt ?_
      repeat (first | refine VIf.tt ?_ | refine VIf.ff ?_)
      refine VReads.mk [.int .i64 (gp ps i).1, .int .i64 (gp ps i).2] rfl hpi ?_
      conv => whnf
      repeat (first | refine VIf.tt ?_ | refine VIf.ff ?_)
      refine VIf.mk (fun hxa => ?_) (fun hxa => ?_)
      · repeat (first | refine VIf.tt ?_ | refine VIf.ff ?_)
        repeat (first | refine VIf.tt ?_ | refine VIf.ff ?_)
        refine VIf.mk (fun hxb => ?_) (fun hxb => ?_)
        · repeat (first | refine VIf.tt ?_ | refine VIf.ff ?_)
          repeat (first | refine VIf.tt ?_ | refine VIf.ff ?_)
          refine VFn.p (turn_fn _ _ _ _ _ _ _ (hC k hk).1 (hC k hk).2 (hC _ hk').1 (hC _ hk').2 (hC i hlt).1 (hC i hlt).2) ?_
          repeat (first | refine VIf.tt ?_ | refine VIf.ff ?_)
          repeat (first | refine VIf.tt ?_ | refine VIf.ff ?_)
          refine VIf.mk (fun ht => ?_) (fun ht => ?_)
          · repeat (first | refine VIf.tt ?_ | refine VIf.ff ?_)
            refine ⟨(⟨[(1, .box 0 0), (2, .box 1 0)], [(1, some (.box 4 [.v (.bool false)])), (0, some (.box 24 [.v (.slice (some ad') ps.length c)]))], 2, M4, 69, ⟨fun _ => none, none, fun _ => none⟩⟩ : St), (Wk.mk' id (by repeat' constructor) (by repeat' constructor) (injOK_id _) rfl rfl rfl), rfl, rfl, fun m => ?_⟩
            repeat (first | refine VIf.tt ?_ | refine VIf.ff ?_)
            refine VFact.mk ?_ trivial
            have h2 : v2B (gp ps k) (gp ps ((k + 1) % ps.length)) (gp ps i) = false := by
              have hx := of_decide_eq_true ht
              have hc : ¬ (0 < crossP (gp ps k) (gp ps ((k + 1) % ps.length)) (gp ps i)) := by unfold crossP; omega
              simp only [Bool.not_eq_true', Bool.and_eq_false_iff, beq_eq_false_iff_ne] at hxa hxb
              simp only [v2B, Bool.or_eq_false_iff, beq_eq_false_iff_ne, decide_eq_false_iff_not]
              exact ⟨⟨fun e => by rw [e] at hxa; simp at hxa, fun e => by rw [e] at hxb; simp at hxb⟩, hc⟩
            have h3' : (List.range ps.length).all (v3B ps) = false := all_false hk (all_false hlt h2)
            simp [validB, h3', h3]
          · repeat (first | refine VIf.tt ?_ | refine VIf.ff ?_)
            repeat (first | refine VIf.tt ?_ | refine VIf.ff ?_)
            refine VArith.ok (by simp only; omega) (by simp only; omega) ?_
            refine ⟨(i + 1, M4), ⟨hM4', hlt, step i hz4 ?_⟩, by simp only; omega, (Wk.mk' id (by repeat' constructor) (by repeat' constructor) (injOK_id _) rfl rfl rfl)⟩
            have hx := of_decide_eq_false ht
            have hc : 0 < crossP (gp ps k) (gp ps ((k + 1) % ps.length)) (gp ps i) := by unfold crossP; omega
            simp [v2B, hc]
        · repeat (first | refine VIf.tt ?_ | refine VIf.ff ?_)
          repeat (first | refine VIf.tt ?_ | refine VIf.ff ?_)
          refine VArith.ok (by simp only; omega) (by simp only; omega) ?_
          refine ⟨(i + 1, M4), ⟨hM4', hlt, step i hz4 ?_⟩, by simp only; omega, (Wk.mk' id (by repeat' constructor) (by repeat' constructor) (injOK_id _) rfl rfl rfl)⟩
          have e : gp ps i = gp ps ((k + 1) % ps.length) := by
            simp only [Bool.not_eq_false', Bool.and_eq_true, beq_iff_eq] at hxb
            exact Prod.ext hxb.1 hxb.2
          simp [v2B, e]
      · repeat (first | refine VIf.tt ?_ | refine VIf.ff ?_)
        repeat (first | refine VIf.tt ?_ | refine VIf.ff ?_)
        refine VArith.ok (by simp only; omega) (by simp only; omega) ?_
        refine ⟨(i + 1, M4), ⟨hM4', hlt, step i hz4 ?_⟩, by simp only; omega, (Wk.mk' id (by repeat' constructor) (by repeat' constructor) (injOK_id _) rfl rfl rfl)⟩
        have e : gp ps i = gp ps k := by
          simp only [Bool.not_eq_false', Bool.and_eq_true, beq_iff_eq] at hxa
          exact Prod.ext hxa.1 hxa.2
        simp [v2B, e]
    · have hin : i = ps.length := by
        have : ¬ ((i : Int) < (ps.length : Int)) := by simpa using hge
        simp only at hi4
        omega
      subst hin
      refine ⟨M4, ⟨hM3'.trans hM4', step k hz3 (all_true hz4)⟩, (Wk.mk' id (by repeat' constructor) (by repeat' constructor) (injOK_id _) rfl rfl rfl)⟩
  · rintro M3 m ⟨hM3, hz3⟩
    repeat (first | refine VIf.tt ?_ | refine VIf.ff ?_)
    refine VFact.mk ?_ trivial
    have : (List.range ps.length).all (v3B ps) = true := all_true fun j hj => hz3 j (by simpa [sidesL] using hj)
    simp [validB, hall, hn1, hn64, this]
end Go.Proofs.Ytaobaeiohjgdcaa
