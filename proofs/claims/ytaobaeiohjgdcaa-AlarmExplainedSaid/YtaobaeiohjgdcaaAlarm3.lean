/- AlarmExplained: AlarmLost is raised exactly if there is no case; if no alarm is raised, each place of each case is in the protection; AlarmLeft is raised exactly if a corner of a case is not. No conditions beyond the statement's own. -/
import Derived.Test.YtaobaeiohjgdcaaE2
import Derived.Test.YtaobaeiohjgdcaaC18
import Derived.Test.YtaobaeiohjgdcaaG1
namespace Go.Proofs.Ytaobaeiohjgdcaa.alarmExplained
open Go Go.V Go.RowKit Go.ChangeShapes Go.WideShapes Go.ChangeAt
theorem take_any {α : Type} (d : α) (g : α → Bool) (l : List α) {i : Nat} (h : i < l.length) : (l.take (i + 1)).any g = ((l.take i).any g || g (l.getD i d)) := by
  rw [List.take_add_one, List.any_append]
  simp [h]
theorem bad_poly (p q : List Pt) : (!withinB p q) = p.any fun z => !hasB q z := by rw [any_all]; rfl
theorem region_of {cs : List CaseS} (h : casesB cs = true) {i : Nat} (hi : i < cs.length) : regionB (gc cs i).st = true := by
  simp only [casesB, Bool.and_eq_true, all_iff] at h
  have := h.2 i hi
  simp only [caseV, case1, Bool.and_eq_true] at this
  exact this.1.1.1.2
/-- Without an alarm each place of a case is in the protection. -/
theorem no_alarm {cs : List CaseS} {q : List Pt} (hcs : casesB cs = true) (hl : leftB cs q = false) {i : Nat} (hi : i < cs.length) {x : Pt} (hx : ((gc cs i).st.any fun p => hasB p x) = true) : hasB q x = true := by
  obtain ⟨p, hp, hpx⟩ := List.any_eq_true.1 hx
  have hv := List.all_eq_true.1 (cases_valid hcs hi) p hp
  rw [left_all] at hl
  have := all_at (⟨[], [], []⟩ : CaseS) (bn2 hl) hi
  exact within_has hv (List.all_eq_true.1 this p hp) hpx

set_option maxRecDepth 20000 in
set_option maxHeartbeats 2000000 in
theorem law_fn (v0 v1 : Value) (cs : List CaseS) (q : List Pt) (x y : Int) (M : Mem) (h0 : CasV M v0 cs) (h1 : Pts M v1 q) (h64 : i64P q) (hx : i64r x) (hy : i64r y) : V.Fn Try.prog 5 [v0, v1, .agg #[.int .i64 x, .int .i64 y]] M fun rs _ => rs = [.bool true] := by
  obtain ⟨ad, c, rfl, hm, hrd⟩ := h0.get
  obtain ⟨wd, wc, rfl⟩ := h1.shape
  refine Fn.of_vc cxOK Try.func5 rfl rfl rfl ?_
  repeat (first | refine VIf.tt ?_ | refine VIf.ff ?_)
  refine VFn.mk _ (head_fn M) ?_
  rintro rs M1 hM1 rfl
  repeat (first | refine VIf.tt ?_ | refine VIf.ff ?_)
  refine VFn.mk _ (Few22_fn _ cs M1 (h0.le hM1)) ?_
  rintro rs M2 hM2 ⟨b1, rfl, _⟩
  repeat (first | refine VIf.tt ?_ | refine VIf.ff ?_)
  refine VIf.mk (fun _ => ?_) (fun _ => ?_)
  · repeat (first | refine VIf.tt ?_ | refine VIf.ff ?_)
    exact VFact.mk rfl trivial
  have m2 : M.le M2 := hM1.trans hM2
  repeat (first | refine VIf.tt ?_ | refine VIf.ff ?_)
  refine VFn.p (Few03_fn _ q M2 (h1.le m2)) ?_
  repeat (first | refine VIf.tt ?_ | refine VIf.ff ?_)
  refine VIf.mk (fun _ => ?_) (fun _ => ?_)
  · repeat (first | refine VIf.tt ?_ | refine VIf.ff ?_)
    exact VFact.mk rfl trivial
  repeat (first | refine VIf.tt ?_ | refine VIf.ff ?_)
  refine VFn.p (Place_fn x y M2) ?_
  repeat (first | refine VIf.tt ?_ | refine VIf.ff ?_)
  refine VIf.mk (fun _ => ?_) (fun hP => ?_)
  · repeat (first | refine VIf.tt ?_ | refine VIf.ff ?_)
    exact VFact.mk rfl trivial
  have hP : placeB (x, y) = true := bn2 hP
  repeat (first | refine VIf.tt ?_ | refine VIf.ff ?_)
  refine VFn.p (casesR_fn _ cs M2 (h0.le m2)) ?_
  repeat (first | refine VIf.tt ?_ | refine VIf.ff ?_)
  refine VIf.mk (fun _ => ?_) (fun hcs => ?_)
  · repeat (first | refine VIf.tt ?_ | refine VIf.ff ?_)
    exact VFact.mk rfl trivial
  have hcs : casesB cs = true := bn2 hcs
  by_cases hq : validB q = true
  rotate_left 1
  · have hq : validB q = false := by simpa using hq
    repeat (first | refine VIf.tt ?_ | refine VIf.ff ?_)
    refine VFn.mk _ (Raise_is (h0.le m2) (h1.le m2) h64 (show raiseB cs q = (0, 1) by rw [raiseB, hq, Bool.and_false]; rfl)) ?_
    rintro rs M3 hM3 rfl
    repeat (first | refine VIf.tt ?_ | refine VIf.ff ?_)
    refine VFn.mk _ (Valid_is (h1.le (m2.trans hM3)) h64 hq) ?_
    rintro rs M4 hM4 rfl
    repeat (first | refine VIf.tt ?_ | refine VIf.ff ?_)
    exact VFact.mk rfl trivial
  have hr : raiseB cs q = (kindB cs q, 0) := by rw [raiseB, hcs, hq]; rfl
  obtain ⟨inb, hinb⟩ : ∃ b, hasB q (x, y) = b := ⟨_, rfl⟩
  by_cases hn : cs = []
  · have hk1 : kindB cs q = 1 := if_pos hn
    have hlen : cs.length = 0 := by rw [hn]; rfl
    rw [hk1] at hr
    repeat (first | refine VIf.tt ?_ | refine VIf.ff ?_)
    refine VFn.mk _ (Raise_is (h0.le m2) (h1.le m2) h64 hr) ?_
    rintro rs M3 hM3 rfl
    have m3 : M.le M3 := m2.trans hM3
    repeat (first | refine VIf.tt ?_ | refine VIf.ff ?_)
    refine VIf.mk (fun h => absurd h (by rw [hlen]; decide)) (fun _ => ?_)
    repeat (first | refine VIf.tt ?_ | refine VIf.ff ?_)
    refine VFn.mk _ (Has_is (h1.le m3) h64 hx hy hq hP hinb) ?_
    rintro rs M4 hM4 rfl
    repeat (first | refine VIf.tt ?_ | refine VIf.ff ?_)
    refine VCode.loop cxOK Unit (fun _ => ⟨[(7, .v (.bool true)), (8, .v (.int .i64 1)), (11, .v (.int .i64 0)), (12, .v (.bool false)), (82, .v (.int .i64 cs.length)), (83, .v (.int .i64 0))], [], 0, M4, 153, ⟨fun _ => none, none, fun _ => none⟩⟩)
      (fun _ => True) (fun _ => 0) () trivial (Wk.mk' id (by repeat' constructor) (by repeat' constructor) (injOK_id _) rfl rfl rfl) ?_
    rintro _ _ m
    repeat (first | refine VIf.tt ?_ | refine VIf.ff ?_)
    refine VIf.mk (fun h => absurd h (by rw [hlen]; decide)) (fun _ => ?_)
    repeat (first | refine VIf.tt ?_ | refine VIf.ff ?_)
    refine VFact.mk ?_ trivial
    rfl
  have hn0 : ((cs.length : Int) == 0) = false := by
    have : cs.length ≠ 0 := fun h => hn (List.eq_nil_of_length_eq_zero h)
    rw [beq_eq_false_iff_ne]; omega
  by_cases hL : leftB cs q = true
  · have hk2 : kindB cs q = 2 := by rw [kindB, if_neg hn, if_pos hL]
    rw [hk2] at hr
    repeat (first | refine VIf.tt ?_ | refine VIf.ff ?_)
    refine VFn.mk _ (Raise_is (h0.le m2) (h1.le m2) h64 hr) ?_
    rintro rs M3 hM3 rfl
    have m3 : M.le M3 := m2.trans hM3
    repeat (first | refine VIf.tt ?_ | refine VIf.ff ?_)
    refine VIf.mk (fun h => absurd h (by rw [hn0]; decide)) (fun _ => ?_)
    repeat (first | refine VIf.tt ?_ | refine VIf.ff ?_)
    refine VFn.mk _ (Has_is (h1.le m3) h64 hx hy hq hP hinb) ?_
    rintro rs M4 hM4 rfl
    have m4 : M.le M4 := m3.trans hM4
    repeat (first | refine VIf.tt ?_ | refine VIf.ff ?_)
    refine VCode.loop cxOK (Nat × Mem × Bool) (fun (⟨s1, s2, s3⟩ : Nat × Mem × Bool) => ⟨[(1, .v (.slice wd q.length wc)), (5, .box 0 0), (7, .v (.bool true)), (8, .v (.int .i64 2)), (10, .v (.bool inb)), (11, .v (.int .i64 0)), (12, .v (.bool s3)), (81, .v (.slice ad cs.length c)), (82, .v (.int .i64 cs.length)), (83, .v (.int .i64 s1))], [(0, some (.box 39 [.v (.int .i64 x), .v (.int .i64 y)]))], 1, s2, 153, ⟨fun _ => none, none, fun _ => none⟩⟩)
      (fun s => M.le s.2.1 ∧ s.1 ≤ cs.length ∧ s.2.2 = (cs.take s.1).any fun c => c.st.any fun p => !withinB p q) (fun s => cs.length - s.1) (0, M4, false) ⟨m4, Nat.zero_le _, by simp⟩ (Wk.mk' id (by repeat' constructor) (by repeat' constructor) (injOK_id _) rfl rfl rfl) ?_
    rintro ⟨i, M5, b⟩ ⟨m5, hi, hb⟩ m
    have m5 : M.le M5 := m5
    have hi : i ≤ cs.length := hi
    have hb : b = (cs.take i).any fun c => c.st.any fun p => !withinB p q := hb
    repeat (first | refine VIf.tt ?_ | refine VIf.ff ?_)
    refine VIf.mk (fun hlt => ?_) (fun hge => ?_)
    · have hlt : i < cs.length := lt_of_dec hlt
      obtain ⟨ad', a1, b1, s1, ead, ha, hb1, hs, hc1⟩ := hrd M5 m5 i hlt
      obtain ⟨x1, x2, rfl, _⟩ := ha.get
      obtain ⟨y1, y2, rfl, _⟩ := hb1.get
      obtain ⟨zd, z2, rfl, _, hsr⟩ := hs.get
      have hst := take_any (⟨[], [], []⟩ : CaseS) (fun c => c.st.any fun p => !withinB p q) cs hlt
      repeat (first | refine VIf.tt ?_ | refine VIf.ff ?_)
      refine VIdx.mk ad' i ead rfl hlt ?_
      repeat (first | refine VIf.tt ?_ | refine VIf.ff ?_)
      refine VReads.mk [.slice x1 (gc cs i).sn.length x2, .slice y1 (gc cs i).cl.length y2, .slice zd (gc cs i).st.length z2] rfl hc1 ?_
      obtain ⟨hh, hhe⟩ : ∃ b, ((gc cs i).st.any fun p => hasB p (x, y)) = b := ⟨_, rfl⟩
      repeat (first | refine VIf.tt ?_ | refine VIf.ff ?_)
      refine VFn.mk _ (regHas_is hs (region_of hcs hlt) hP hhe) ?_
      rintro rs M6 hM6 rfl
      have m6 : M.le M6 := m5.trans hM6
      repeat (first | refine VIf.tt ?_ | refine VIf.ff ?_)
      refine VCode.loop cxOK (Nat × Mem × Bool) (fun (⟨s1, s2, s3⟩ : Nat × Mem × Bool) => ⟨[(1, .v (.slice wd q.length wc)), (5, .box 0 0), (7, .v (.bool true)), (8, .v (.int .i64 2)), (10, .v (.bool inb)), (11, .v (.int .i64 0)), (12, .v (.bool s3)), (81, .v (.slice ad cs.length c)), (82, .v (.int .i64 cs.length)), (83, .v (.int .i64 i)), (111, .v (.slice zd (gc cs i).st.length z2)), (112, .v (.int .i64 (gc cs i).st.length)), (113, .v (.int .i64 s1))], [(0, some (.box 39 [.v (.int .i64 x), .v (.int .i64 y)]))], 1, s2, 153, ⟨fun _ => none, none, fun _ => none⟩⟩)
        (fun s => M6.le s.2.1 ∧ s.1 ≤ (gc cs i).st.length ∧ s.2.2 = (b || ((gc cs i).st.take s.1).any fun p => !withinB p q)) (fun s => (gc cs i).st.length - s.1) (0, M6, b) ⟨Mem.le_refl _, Nat.zero_le _, by simp⟩ (Wk.mk' id (by repeat' constructor) (by repeat' constructor) (injOK_id _) rfl rfl rfl) ?_
      rintro ⟨j, M7, b7⟩ ⟨m7', hj, hb7⟩ m
      have m7' : M6.le M7 := m7'
      have m7 : M.le M7 := m6.trans m7'
      have hj : j ≤ (gc cs i).st.length := hj
      have hb7 : b7 = (b || ((gc cs i).st.take j).any fun p => !withinB p q) := hb7
      repeat (first | refine VIf.tt ?_ | refine VIf.ff ?_)
      refine VIf.mk (fun hlj => ?_) (fun hgj => ?_)
      · have hlj : j < (gc cs i).st.length := lt_of_dec hlj
        obtain ⟨zd', w, ezd, hw, hw64, hc2⟩ := hsr M7 (hM6.trans m7') j hlj
        obtain ⟨wad, wc', rfl⟩ := hw.shape
        obtain ⟨_, hwm, hwr⟩ := hw.cellsOf
        unfold maxLen at hwm
        have hpv : validB (gr (gc cs i).st j) = true := all_at [] (cases_valid hcs hlt) hlj
        have hpC := allC_of hpv
        have hpl := valid_len hpv
        have hsj := take_any ([] : List Pt) (fun p => !withinB p q) (gc cs i).st hlj
        repeat (first | refine VIf.tt ?_ | refine VIf.ff ?_)
        refine VIdx.mk zd' j ezd rfl hlj ?_
        repeat (first | refine VIf.tt ?_ | refine VIf.ff ?_)
        refine VRead.mk _ hc2 ?_
        repeat (first | refine VIf.tt ?_ | refine VIf.ff ?_)
        refine VCode.loop cxOK (Nat × Mem × Bool) (fun (⟨s1, s2, s3⟩ : Nat × Mem × Bool) => ⟨[(1, .v (.slice wd q.length wc)), (5, .box 0 0), (7, .v (.bool true)), (8, .v (.int .i64 2)), (10, .v (.bool inb)), (11, .v (.int .i64 0)), (12, .v (.bool s3)), (81, .v (.slice ad cs.length c)), (82, .v (.int .i64 cs.length)), (83, .v (.int .i64 i)), (111, .v (.slice zd (gc cs i).st.length z2)), (112, .v (.int .i64 (gc cs i).st.length)), (113, .v (.int .i64 j)), (117, .v (.slice wad (gr (gc cs i).st j).length wc')), (118, .v (.int .i64 (gr (gc cs i).st j).length)), (119, .v (.int .i64 s1))], [(0, some (.box 39 [.v (.int .i64 x), .v (.int .i64 y)]))], 1, s2, 153, ⟨fun _ => none, none, fun _ => none⟩⟩)
          (fun s => M7.le s.2.1 ∧ s.1 ≤ (gr (gc cs i).st j).length ∧ s.2.2 = (b7 || ((gr (gc cs i).st j).take s.1).any fun z => !hasB q z)) (fun s => (gr (gc cs i).st j).length - s.1) (0, M7, b7) ⟨Mem.le_refl _, Nat.zero_le _, by simp⟩ (Wk.mk' id (by repeat' constructor) (by repeat' constructor) (injOK_id _) rfl rfl rfl) ?_
        rintro ⟨k, M8, b8⟩ ⟨m8', hk, hb8⟩ m
        have m8' : M7.le M8 := m8'
        have m8 : M.le M8 := m7.trans m8'
        have hk : k ≤ (gr (gc cs i).st j).length := hk
        have hb8 : b8 = (b7 || ((gr (gc cs i).st j).take k).any fun z => !hasB q z) := hb8
        repeat (first | refine VIf.tt ?_ | refine VIf.ff ?_)
        refine VIf.mk (fun hlk => ?_) (fun hgk => ?_)
        · have hlk : k < (gr (gc cs i).st j).length := lt_of_dec hlk
          have hwk1 := hwr M8 m8'
          have hwk2 := hwk1 k hlk
          obtain ⟨wad', hwk3⟩ := hwk2
          obtain ⟨ewd, hwk⟩ := hwk3
          have hsk := take_any ((0, 0) : Pt) (fun z => !hasB q z) (gr (gc cs i).st j) hlk
          repeat (first | refine VIf.tt ?_ | refine VIf.ff ?_)
          refine VIdx.mk wad' k ewd rfl hlk ?_
          repeat (first | refine VIf.tt ?_ | refine VIf.ff ?_)
          refine VReads.mk [.int .i64 (gp (gr (gc cs i).st j) k).1, .int .i64 (gp (gr (gc cs i).st j) k).2] rfl hwk ?_
          repeat (first | refine VIf.tt ?_ | refine VIf.ff ?_)
          refine VFn.mk _ (Has_is (h1.le m8) h64 (isC_i64 (hpC k hlk).1) (isC_i64 (hpC k hlk).2) hq (allC_place hpC hlk) rfl) ?_
          rintro rs M9 hM9 rfl
          repeat (first | refine VIf.tt ?_ | refine VIf.ff ?_)
          refine VIf.mk (fun hbt => ?_) (fun hbf => ?_)
          · repeat (first | refine VIf.tt ?_ | refine VIf.ff ?_)
            refine VArith.ok (by first | omega | (simp only; omega)) (by first | omega | (simp only; omega)) ?_
            refine ⟨(k + 1, M9, true), ⟨m8'.trans hM9, hlk, ?_⟩, (by first | omega | (simp only; omega)), (Wk.mk' id (by repeat' constructor) (by repeat' constructor) (injOK_id _) rfl rfl rfl)⟩
            have hbt : b8 = true := hbt
            rw [hbt] at hb8
            simp only [hsk]
            rw [← Bool.or_assoc, ← hb8]; rfl
          · repeat (first | refine VIf.tt ?_ | refine VIf.ff ?_)
            refine VArith.ok (by first | omega | (simp only; omega)) (by first | omega | (simp only; omega)) ?_
            refine ⟨(k + 1, M9, !hasB q (gp (gr (gc cs i).st j) k)), ⟨m8'.trans hM9, hlk, ?_⟩, (by first | omega | (simp only; omega)), (Wk.mk' id (by repeat' constructor) (by repeat' constructor) (injOK_id _) rfl rfl rfl)⟩
            have hbf : b8 = false := hbf
            rw [hbf] at hb8
            simp only [hsk]
            rw [← Bool.or_assoc, ← hb8]; rfl
        · have : k = (gr (gc cs i).st j).length := by have := ge_of_dec hgk; omega
          subst this
          repeat (first | refine VIf.tt ?_ | refine VIf.ff ?_)
          refine VArith.ok (by first | omega | (simp only; omega)) (by first | omega | (simp only; omega)) ?_
          refine ⟨(j + 1, M8, b8), ⟨m7'.trans m8', hlj, ?_⟩, (by first | omega | (simp only; omega)), (Wk.mk' id (by repeat' constructor) (by repeat' constructor) (injOK_id _) rfl rfl rfl)⟩
          rw [List.take_length] at hb8
          simp only [hsj]
          rw [hb8, hb7, ← Bool.or_assoc]
          have e := bad_poly (gr (gc cs i).st j) q
          simp only [gr] at e ⊢
          rw [e]
      · have : j = (gc cs i).st.length := by have := ge_of_dec hgj; omega
        subst this
        repeat (first | refine VIf.tt ?_ | refine VIf.ff ?_)
        refine VArith.ok (by first | omega | (simp only; omega)) (by first | omega | (simp only; omega)) ?_
        refine ⟨(i + 1, M7, b7), ⟨m7, hlt, ?_⟩, (by first | omega | (simp only; omega)), (Wk.mk' id (by repeat' constructor) (by repeat' constructor) (injOK_id _) rfl rfl rfl)⟩
        rw [List.take_length] at hb7
        simp only [hst]
        rw [hb7, hb]
        rfl
    · have : i = cs.length := by have := ge_of_dec hge; omega
      subst this
      repeat (first | refine VIf.tt ?_ | refine VIf.ff ?_)
      refine VFact.mk ?_ trivial
      rw [List.take_length] at hb
      have hb : b = leftB cs q := hb
      rw [hb, hL]
      rfl
  · have hL : leftB cs q = false := by simpa using hL
    have hk0 : kindB cs q = 0 := by rw [kindB, if_neg hn, if_neg (by rw [hL]; exact Bool.false_ne_true)]
    rw [hk0] at hr
    repeat (first | refine VIf.tt ?_ | refine VIf.ff ?_)
    refine VFn.mk _ (Raise_is (h0.le m2) (h1.le m2) h64 hr) ?_
    rintro rs M3 hM3 rfl
    have m3 : M.le M3 := m2.trans hM3
    repeat (first | refine VIf.tt ?_ | refine VIf.ff ?_)
    refine VIf.mk (fun h => absurd h (by rw [hn0]; decide)) (fun _ => ?_)
    repeat (first | refine VIf.tt ?_ | refine VIf.ff ?_)
    refine VFn.mk _ (Has_is (h1.le m3) h64 hx hy hq hP hinb) ?_
    rintro rs M4 hM4 rfl
    have m4 : M.le M4 := m3.trans hM4
    repeat (first | refine VIf.tt ?_ | refine VIf.ff ?_)
    refine VCode.loop cxOK (Nat × Mem × Bool) (fun (⟨s1, s2, s3⟩ : Nat × Mem × Bool) => ⟨[(1, .v (.slice wd q.length wc)), (5, .box 0 0), (7, .v (.bool true)), (8, .v (.int .i64 0)), (10, .v (.bool inb)), (11, .v (.int .i64 0)), (12, .v (.bool s3)), (81, .v (.slice ad cs.length c)), (82, .v (.int .i64 cs.length)), (83, .v (.int .i64 s1))], [(0, some (.box 39 [.v (.int .i64 x), .v (.int .i64 y)]))], 1, s2, 153, ⟨fun _ => none, none, fun _ => none⟩⟩)
      (fun s => M.le s.2.1 ∧ s.1 ≤ cs.length ∧ s.2.2 = (cs.take s.1).any fun c => c.st.any fun p => !withinB p q) (fun s => cs.length - s.1) (0, M4, false) ⟨m4, Nat.zero_le _, by simp⟩ (Wk.mk' id (by repeat' constructor) (by repeat' constructor) (injOK_id _) rfl rfl rfl) ?_
    rintro ⟨i, M5, b⟩ ⟨m5, hi, hb⟩ m
    have m5 : M.le M5 := m5
    have hi : i ≤ cs.length := hi
    have hb : b = (cs.take i).any fun c => c.st.any fun p => !withinB p q := hb
    repeat (first | refine VIf.tt ?_ | refine VIf.ff ?_)
    refine VIf.mk (fun hlt => ?_) (fun hge => ?_)
    · have hlt : i < cs.length := lt_of_dec hlt
      obtain ⟨ad', a1, b1, s1, ead, ha, hb1, hs, hc1⟩ := hrd M5 m5 i hlt
      obtain ⟨x1, x2, rfl, _⟩ := ha.get
      obtain ⟨y1, y2, rfl, _⟩ := hb1.get
      obtain ⟨zd, z2, rfl, _, hsr⟩ := hs.get
      have hst := take_any (⟨[], [], []⟩ : CaseS) (fun c => c.st.any fun p => !withinB p q) cs hlt
      repeat (first | refine VIf.tt ?_ | refine VIf.ff ?_)
      refine VIdx.mk ad' i ead rfl hlt ?_
      repeat (first | refine VIf.tt ?_ | refine VIf.ff ?_)
      refine VReads.mk [.slice x1 (gc cs i).sn.length x2, .slice y1 (gc cs i).cl.length y2, .slice zd (gc cs i).st.length z2] rfl hc1 ?_
      obtain ⟨hh, hhe⟩ : ∃ b, ((gc cs i).st.any fun p => hasB p (x, y)) = b := ⟨_, rfl⟩
      repeat (first | refine VIf.tt ?_ | refine VIf.ff ?_)
      refine VFn.mk _ (regHas_is hs (region_of hcs hlt) hP hhe) ?_
      rintro rs M6 hM6 rfl
      repeat (first | refine VIf.tt ?_ | refine VIf.ff ?_)
      refine VIf.mk (fun _ => ?_) (fun hh' => ?_)
      · have m6 : M.le M6 := m5.trans hM6
        repeat (first | refine VIf.tt ?_ | refine VIf.ff ?_)
        refine VCode.loop cxOK (Nat × Mem × Bool) (fun (⟨s1, s2, s3⟩ : Nat × Mem × Bool) => ⟨[(1, .v (.slice wd q.length wc)), (5, .box 0 0), (7, .v (.bool true)), (8, .v (.int .i64 0)), (10, .v (.bool inb)), (11, .v (.int .i64 0)), (12, .v (.bool s3)), (81, .v (.slice ad cs.length c)), (82, .v (.int .i64 cs.length)), (83, .v (.int .i64 i)), (111, .v (.slice zd (gc cs i).st.length z2)), (112, .v (.int .i64 (gc cs i).st.length)), (113, .v (.int .i64 s1))], [(0, some (.box 39 [.v (.int .i64 x), .v (.int .i64 y)]))], 1, s2, 153, ⟨fun _ => none, none, fun _ => none⟩⟩)
          (fun s => M6.le s.2.1 ∧ s.1 ≤ (gc cs i).st.length ∧ s.2.2 = (b || ((gc cs i).st.take s.1).any fun p => !withinB p q)) (fun s => (gc cs i).st.length - s.1) (0, M6, b) ⟨Mem.le_refl _, Nat.zero_le _, by simp⟩ (Wk.mk' id (by repeat' constructor) (by repeat' constructor) (injOK_id _) rfl rfl rfl) ?_
        rintro ⟨j, M7, b7⟩ ⟨m7', hj, hb7⟩ m
        have m7' : M6.le M7 := m7'
        have m7 : M.le M7 := m6.trans m7'
        have hj : j ≤ (gc cs i).st.length := hj
        have hb7 : b7 = (b || ((gc cs i).st.take j).any fun p => !withinB p q) := hb7
        repeat (first | refine VIf.tt ?_ | refine VIf.ff ?_)
        refine VIf.mk (fun hlj => ?_) (fun hgj => ?_)
        · have hlj : j < (gc cs i).st.length := lt_of_dec hlj
          obtain ⟨zd', w, ezd, hw, hw64, hc2⟩ := hsr M7 (hM6.trans m7') j hlj
          obtain ⟨wad, wc', rfl⟩ := hw.shape
          obtain ⟨_, hwm, hwr⟩ := hw.cellsOf
          unfold maxLen at hwm
          have hpv : validB (gr (gc cs i).st j) = true := all_at [] (cases_valid hcs hlt) hlj
          have hpC := allC_of hpv
          have hpl := valid_len hpv
          have hsj := take_any ([] : List Pt) (fun p => !withinB p q) (gc cs i).st hlj
          repeat (first | refine VIf.tt ?_ | refine VIf.ff ?_)
          refine VIdx.mk zd' j ezd rfl hlj ?_
          repeat (first | refine VIf.tt ?_ | refine VIf.ff ?_)
          refine VRead.mk _ hc2 ?_
          repeat (first | refine VIf.tt ?_ | refine VIf.ff ?_)
          refine VCode.loop cxOK (Nat × Mem × Bool) (fun (⟨s1, s2, s3⟩ : Nat × Mem × Bool) => ⟨[(1, .v (.slice wd q.length wc)), (5, .box 0 0), (7, .v (.bool true)), (8, .v (.int .i64 0)), (10, .v (.bool inb)), (11, .v (.int .i64 0)), (12, .v (.bool s3)), (81, .v (.slice ad cs.length c)), (82, .v (.int .i64 cs.length)), (83, .v (.int .i64 i)), (111, .v (.slice zd (gc cs i).st.length z2)), (112, .v (.int .i64 (gc cs i).st.length)), (113, .v (.int .i64 j)), (117, .v (.slice wad (gr (gc cs i).st j).length wc')), (118, .v (.int .i64 (gr (gc cs i).st j).length)), (119, .v (.int .i64 s1))], [(0, some (.box 39 [.v (.int .i64 x), .v (.int .i64 y)]))], 1, s2, 153, ⟨fun _ => none, none, fun _ => none⟩⟩)
            (fun s => M7.le s.2.1 ∧ s.1 ≤ (gr (gc cs i).st j).length ∧ s.2.2 = (b7 || ((gr (gc cs i).st j).take s.1).any fun z => !hasB q z)) (fun s => (gr (gc cs i).st j).length - s.1) (0, M7, b7) ⟨Mem.le_refl _, Nat.zero_le _, by simp⟩ (Wk.mk' id (by repeat' constructor) (by repeat' constructor) (injOK_id _) rfl rfl rfl) ?_
          rintro ⟨k, M8, b8⟩ ⟨m8', hk, hb8⟩ m
          have m8' : M7.le M8 := m8'
          have m8 : M.le M8 := m7.trans m8'
          have hk : k ≤ (gr (gc cs i).st j).length := hk
          have hb8 : b8 = (b7 || ((gr (gc cs i).st j).take k).any fun z => !hasB q z) := hb8
          repeat (first | refine VIf.tt ?_ | refine VIf.ff ?_)
          refine VIf.mk (fun hlk => ?_) (fun hgk => ?_)
          · have hlk : k < (gr (gc cs i).st j).length := lt_of_dec hlk
            have hwk1 := hwr M8 m8'
            have hwk2 := hwk1 k hlk
            obtain ⟨wad', hwk3⟩ := hwk2
            obtain ⟨ewd, hwk⟩ := hwk3
            have hsk := take_any ((0, 0) : Pt) (fun z => !hasB q z) (gr (gc cs i).st j) hlk
            repeat (first | refine VIf.tt ?_ | refine VIf.ff ?_)
            refine VIdx.mk wad' k ewd rfl hlk ?_
            repeat (first | refine VIf.tt ?_ | refine VIf.ff ?_)
            refine VReads.mk [.int .i64 (gp (gr (gc cs i).st j) k).1, .int .i64 (gp (gr (gc cs i).st j) k).2] rfl hwk ?_
            repeat (first | refine VIf.tt ?_ | refine VIf.ff ?_)
            refine VFn.mk _ (Has_is (h1.le m8) h64 (isC_i64 (hpC k hlk).1) (isC_i64 (hpC k hlk).2) hq (allC_place hpC hlk) rfl) ?_
            rintro rs M9 hM9 rfl
            repeat (first | refine VIf.tt ?_ | refine VIf.ff ?_)
            refine VIf.mk (fun hbt => ?_) (fun hbf => ?_)
            · repeat (first | refine VIf.tt ?_ | refine VIf.ff ?_)
              refine VArith.ok (by first | omega | (simp only; omega)) (by first | omega | (simp only; omega)) ?_
              refine ⟨(k + 1, M9, true), ⟨m8'.trans hM9, hlk, ?_⟩, (by first | omega | (simp only; omega)), (Wk.mk' id (by repeat' constructor) (by repeat' constructor) (injOK_id _) rfl rfl rfl)⟩
              have hbt : b8 = true := hbt
              rw [hbt] at hb8
              simp only [hsk]
              rw [← Bool.or_assoc, ← hb8]; rfl
            · repeat (first | refine VIf.tt ?_ | refine VIf.ff ?_)
              refine VArith.ok (by first | omega | (simp only; omega)) (by first | omega | (simp only; omega)) ?_
              refine ⟨(k + 1, M9, !hasB q (gp (gr (gc cs i).st j) k)), ⟨m8'.trans hM9, hlk, ?_⟩, (by first | omega | (simp only; omega)), (Wk.mk' id (by repeat' constructor) (by repeat' constructor) (injOK_id _) rfl rfl rfl)⟩
              have hbf : b8 = false := hbf
              rw [hbf] at hb8
              simp only [hsk]
              rw [← Bool.or_assoc, ← hb8]; rfl
          · have : k = (gr (gc cs i).st j).length := by have := ge_of_dec hgk; omega
            subst this
            repeat (first | refine VIf.tt ?_ | refine VIf.ff ?_)
            refine VArith.ok (by first | omega | (simp only; omega)) (by first | omega | (simp only; omega)) ?_
            refine ⟨(j + 1, M8, b8), ⟨m7'.trans m8', hlj, ?_⟩, (by first | omega | (simp only; omega)), (Wk.mk' id (by repeat' constructor) (by repeat' constructor) (injOK_id _) rfl rfl rfl)⟩
            rw [List.take_length] at hb8
            simp only [hsj]
            rw [hb8, hb7, ← Bool.or_assoc]
            have e := bad_poly (gr (gc cs i).st j) q
            simp only [gr] at e ⊢
            rw [e]
        · have : j = (gc cs i).st.length := by have := ge_of_dec hgj; omega
          subst this
          repeat (first | refine VIf.tt ?_ | refine VIf.ff ?_)
          refine VArith.ok (by first | omega | (simp only; omega)) (by first | omega | (simp only; omega)) ?_
          refine ⟨(i + 1, M7, b7), ⟨m7, hlt, ?_⟩, (by first | omega | (simp only; omega)), (Wk.mk' id (by repeat' constructor) (by repeat' constructor) (injOK_id _) rfl rfl rfl)⟩
          rw [List.take_length] at hb7
          simp only [hst]
          rw [hb7, hb]
          rfl
      · have hin := no_alarm hcs hL hlt (hhe.trans (bn2 hh'))
        rw [hinb] at hin
        subst hin
        have m6 : M.le M6 := m5.trans hM6
        repeat (first | refine VIf.tt ?_ | refine VIf.ff ?_)
        refine VCode.loop cxOK (Nat × Mem × Bool) (fun (⟨s1, s2, s3⟩ : Nat × Mem × Bool) => ⟨[(1, .v (.slice wd q.length wc)), (5, .box 0 0), (7, .v (.bool true)), (8, .v (.int .i64 0)), (10, .v (.bool true)), (11, .v (.int .i64 0)), (12, .v (.bool s3)), (81, .v (.slice ad cs.length c)), (82, .v (.int .i64 cs.length)), (83, .v (.int .i64 i)), (111, .v (.slice zd (gc cs i).st.length z2)), (112, .v (.int .i64 (gc cs i).st.length)), (113, .v (.int .i64 s1))], [(0, some (.box 39 [.v (.int .i64 x), .v (.int .i64 y)]))], 1, s2, 153, ⟨fun _ => none, none, fun _ => none⟩⟩)
          (fun s => M6.le s.2.1 ∧ s.1 ≤ (gc cs i).st.length ∧ s.2.2 = (b || ((gc cs i).st.take s.1).any fun p => !withinB p q)) (fun s => (gc cs i).st.length - s.1) (0, M6, b) ⟨Mem.le_refl _, Nat.zero_le _, by simp⟩ (Wk.mk' id (by repeat' constructor) (by repeat' constructor) (injOK_id _) rfl rfl rfl) ?_
        rintro ⟨j, M7, b7⟩ ⟨m7', hj, hb7⟩ m
        have m7' : M6.le M7 := m7'
        have m7 : M.le M7 := m6.trans m7'
        have hj : j ≤ (gc cs i).st.length := hj
        have hb7 : b7 = (b || ((gc cs i).st.take j).any fun p => !withinB p q) := hb7
        repeat (first | refine VIf.tt ?_ | refine VIf.ff ?_)
        refine VIf.mk (fun hlj => ?_) (fun hgj => ?_)
        · have hlj : j < (gc cs i).st.length := lt_of_dec hlj
          obtain ⟨zd', w, ezd, hw, hw64, hc2⟩ := hsr M7 (hM6.trans m7') j hlj
          obtain ⟨wad, wc', rfl⟩ := hw.shape
          obtain ⟨_, hwm, hwr⟩ := hw.cellsOf
          unfold maxLen at hwm
          have hpv : validB (gr (gc cs i).st j) = true := all_at [] (cases_valid hcs hlt) hlj
          have hpC := allC_of hpv
          have hpl := valid_len hpv
          have hsj := take_any ([] : List Pt) (fun p => !withinB p q) (gc cs i).st hlj
          repeat (first | refine VIf.tt ?_ | refine VIf.ff ?_)
          refine VIdx.mk zd' j ezd rfl hlj ?_
          repeat (first | refine VIf.tt ?_ | refine VIf.ff ?_)
          refine VRead.mk _ hc2 ?_
          repeat (first | refine VIf.tt ?_ | refine VIf.ff ?_)
          refine VCode.loop cxOK (Nat × Mem × Bool) (fun (⟨s1, s2, s3⟩ : Nat × Mem × Bool) => ⟨[(1, .v (.slice wd q.length wc)), (5, .box 0 0), (7, .v (.bool true)), (8, .v (.int .i64 0)), (10, .v (.bool true)), (11, .v (.int .i64 0)), (12, .v (.bool s3)), (81, .v (.slice ad cs.length c)), (82, .v (.int .i64 cs.length)), (83, .v (.int .i64 i)), (111, .v (.slice zd (gc cs i).st.length z2)), (112, .v (.int .i64 (gc cs i).st.length)), (113, .v (.int .i64 j)), (117, .v (.slice wad (gr (gc cs i).st j).length wc')), (118, .v (.int .i64 (gr (gc cs i).st j).length)), (119, .v (.int .i64 s1))], [(0, some (.box 39 [.v (.int .i64 x), .v (.int .i64 y)]))], 1, s2, 153, ⟨fun _ => none, none, fun _ => none⟩⟩)
            (fun s => M7.le s.2.1 ∧ s.1 ≤ (gr (gc cs i).st j).length ∧ s.2.2 = (b7 || ((gr (gc cs i).st j).take s.1).any fun z => !hasB q z)) (fun s => (gr (gc cs i).st j).length - s.1) (0, M7, b7) ⟨Mem.le_refl _, Nat.zero_le _, by simp⟩ (Wk.mk' id (by repeat' constructor) (by repeat' constructor) (injOK_id _) rfl rfl rfl) ?_
          rintro ⟨k, M8, b8⟩ ⟨m8', hk, hb8⟩ m
          have m8' : M7.le M8 := m8'
          have m8 : M.le M8 := m7.trans m8'
          have hk : k ≤ (gr (gc cs i).st j).length := hk
          have hb8 : b8 = (b7 || ((gr (gc cs i).st j).take k).any fun z => !hasB q z) := hb8
          repeat (first | refine VIf.tt ?_ | refine VIf.ff ?_)
          refine VIf.mk (fun hlk => ?_) (fun hgk => ?_)
          · have hlk : k < (gr (gc cs i).st j).length := lt_of_dec hlk
            have hwk1 := hwr M8 m8'
            have hwk2 := hwk1 k hlk
            obtain ⟨wad', hwk3⟩ := hwk2
            obtain ⟨ewd, hwk⟩ := hwk3
            have hsk := take_any ((0, 0) : Pt) (fun z => !hasB q z) (gr (gc cs i).st j) hlk
            repeat (first | refine VIf.tt ?_ | refine VIf.ff ?_)
            refine VIdx.mk wad' k ewd rfl hlk ?_
            repeat (first | refine VIf.tt ?_ | refine VIf.ff ?_)
            refine VReads.mk [.int .i64 (gp (gr (gc cs i).st j) k).1, .int .i64 (gp (gr (gc cs i).st j) k).2] rfl hwk ?_
            repeat (first | refine VIf.tt ?_ | refine VIf.ff ?_)
            refine VFn.mk _ (Has_is (h1.le m8) h64 (isC_i64 (hpC k hlk).1) (isC_i64 (hpC k hlk).2) hq (allC_place hpC hlk) rfl) ?_
            rintro rs M9 hM9 rfl
            repeat (first | refine VIf.tt ?_ | refine VIf.ff ?_)
            refine VIf.mk (fun hbt => ?_) (fun hbf => ?_)
            · repeat (first | refine VIf.tt ?_ | refine VIf.ff ?_)
              refine VArith.ok (by first | omega | (simp only; omega)) (by first | omega | (simp only; omega)) ?_
              refine ⟨(k + 1, M9, true), ⟨m8'.trans hM9, hlk, ?_⟩, (by first | omega | (simp only; omega)), (Wk.mk' id (by repeat' constructor) (by repeat' constructor) (injOK_id _) rfl rfl rfl)⟩
              have hbt : b8 = true := hbt
              rw [hbt] at hb8
              simp only [hsk]
              rw [← Bool.or_assoc, ← hb8]; rfl
            · repeat (first | refine VIf.tt ?_ | refine VIf.ff ?_)
              refine VArith.ok (by first | omega | (simp only; omega)) (by first | omega | (simp only; omega)) ?_
              refine ⟨(k + 1, M9, !hasB q (gp (gr (gc cs i).st j) k)), ⟨m8'.trans hM9, hlk, ?_⟩, (by first | omega | (simp only; omega)), (Wk.mk' id (by repeat' constructor) (by repeat' constructor) (injOK_id _) rfl rfl rfl)⟩
              have hbf : b8 = false := hbf
              rw [hbf] at hb8
              simp only [hsk]
              rw [← Bool.or_assoc, ← hb8]; rfl
          · have : k = (gr (gc cs i).st j).length := by have := ge_of_dec hgk; omega
            subst this
            repeat (first | refine VIf.tt ?_ | refine VIf.ff ?_)
            refine VArith.ok (by first | omega | (simp only; omega)) (by first | omega | (simp only; omega)) ?_
            refine ⟨(j + 1, M8, b8), ⟨m7'.trans m8', hlj, ?_⟩, (by first | omega | (simp only; omega)), (Wk.mk' id (by repeat' constructor) (by repeat' constructor) (injOK_id _) rfl rfl rfl)⟩
            rw [List.take_length] at hb8
            simp only [hsj]
            rw [hb8, hb7, ← Bool.or_assoc]
            have e := bad_poly (gr (gc cs i).st j) q
            simp only [gr] at e ⊢
            rw [e]
        · have : j = (gc cs i).st.length := by have := ge_of_dec hgj; omega
          subst this
          repeat (first | refine VIf.tt ?_ | refine VIf.ff ?_)
          refine VArith.ok (by first | omega | (simp only; omega)) (by first | omega | (simp only; omega)) ?_
          refine ⟨(i + 1, M7, b7), ⟨m7, hlt, ?_⟩, (by first | omega | (simp only; omega)), (Wk.mk' id (by repeat' constructor) (by repeat' constructor) (injOK_id _) rfl rfl rfl)⟩
          rw [List.take_length] at hb7
          simp only [hst]
          rw [hb7, hb]
          rfl
    · have : i = cs.length := by have := ge_of_dec hge; omega
      subst this
      repeat (first | refine VIf.tt ?_ | refine VIf.ff ?_)
      refine VFact.mk ?_ trivial
      rw [List.take_length] at hb
      have hb : b = leftB cs q := hb
      rw [hb, hL]
      rfl
end Go.Proofs.Ytaobaeiohjgdcaa.alarmExplained
