/- AlarmMoved: if all are moved alike, the alarm is the same. No conditions beyond the statement's own. -/
import Derived.Test.YtaobaeiohjgdcaaE2
import Derived.Test.YtaobaeiohjgdcaaG2
namespace Go.Proofs.Ytaobaeiohjgdcaa.alarmMoved
open Go Go.V Go.RowKit Go.ChangeShapes Go.WideShapes Go.ChangeAt
theorem inj4 (e4 e3 e1 e0 : Option OE) : injOK (fun k => if k = 4 then 6 else k) [(4, e4), (3, e3), (1, e1), (0, e0)] := by simp [injOK]
theorem inj2 (e1 e0 : Option OE) : injOK (fun k => if k = 1 then 6 else k) [(1, e1), (0, e0)] := by simp [injOK]
set_option maxRecDepth 20000 in
set_option maxHeartbeats 2000000 in
theorem law_fn (v0 v1 : Value) (cs : List CaseS) (p : List Pt) (x y : Int) (M : Mem) (h0 : CasV M v0 cs) (h1 : Pts M v1 p) (h64 : i64P p) (hx : i64r x) (hy : i64r y) : V.Fn Try.prog 14 [v0, v1, .agg #[.int .i64 x, .int .i64 y]] M fun rs _ => rs = [.bool true] := by
  obtain ⟨ad, c, rfl, hm, hrd⟩ := h0.get
  obtain ⟨wd, wc, rfl⟩ := h1.shape
  refine Fn.of_vc cxOK Try.func14 rfl rfl rfl ?_
  repeat (first | refine VIf.tt ?_ | refine VIf.ff ?_)
  refine VFn.mk _ (head_fn M) ?_
  rintro rs M1 hM1 rfl
  repeat (first | refine VIf.tt ?_ | refine VIf.ff ?_)
  refine VFn.mk _ (Few22_fn _ cs M1 (h0.le hM1)) ?_
  rintro rs M2 hM2 ⟨b1, rfl, _⟩
  repeat (first | refine VIf.tt ?_ | refine VIf.ff ?_)
  refine VIf.mk (fun _ => ?_) (fun _ => ?_)
  · repeat (first | refine VIf.tt ?_ | refine VIf.ff ?_)
    exact VFact.mk rfl trivial
  have m2 : M.le M2 := hM1.trans hM2
  repeat (first | refine VIf.tt ?_ | refine VIf.ff ?_)
  refine VFn.p (Few03_fn _ p M2 (h1.le m2)) ?_
  repeat (first | refine VIf.tt ?_ | refine VIf.ff ?_)
  refine VIf.mk (fun _ => ?_) (fun _ => ?_)
  · repeat (first | refine VIf.tt ?_ | refine VIf.ff ?_)
    exact VFact.mk rfl trivial
  obtain ⟨⟨a, e⟩, hr⟩ : ∃ r, raiseB cs p = r := ⟨_, rfl⟩
  repeat (first | refine VIf.tt ?_ | refine VIf.ff ?_)
  refine VFn.mk _ (Raise_is (h0.le m2) (h1.le m2) h64 hr) ?_
  rintro rs M3 hM3 rfl
  have m3 : M.le M3 := m2.trans hM3
  repeat (first | refine VIf.tt ?_ | refine VIf.ff ?_)
  refine VFn.mk _ (Shift_fn _ p (x, y) M3 (h1.le m3) h64 hx hy) ?_
  rintro rs M4 hM4 hs
  have m4 : M.le M4 := m3.trans hM4
  rcases hs with ⟨e', he', rfl⟩ | ⟨u, rfl, _, hVm, hu⟩
  · repeat (first | refine VIf.tt ?_ | refine VIf.ff ?_)
    refine VIf.mk (fun _ => ?_) (fun _ => ?_)
    · repeat (first | refine VIf.tt ?_ | refine VIf.ff ?_)
      exact VFact.mk rfl trivial
    repeat (first | refine VIf.tt ?_ | refine VIf.ff ?_)
    refine VIf.mk (fun _ => ?_) (fun h => absurd (bne_eq_false_iff_eq.1 h) he')
    repeat (first | refine VIf.tt ?_ | refine VIf.ff ?_)
    exact VFact.mk rfl trivial
  repeat (first | refine VIf.tt ?_ | refine VIf.ff ?_)
  refine VIf.mk (fun _ => ?_) (fun he => ?_)
  · repeat (first | refine VIf.tt ?_ | refine VIf.ff ?_)
    exact VFact.mk rfl trivial
  have he : e = 0 := bne_eq_false_iff_eq.1 he
  subst he
  obtain ⟨hcs, hq, rfl⟩ := raise_split hr
  have hlen : cs.length ≤ 200 := by simp only [casesB, Bool.and_eq_true, decide_eq_true_eq] at hcs; exact hcs.1
  obtain ⟨ud, uc, rfl⟩ := hu.shape
  repeat (first | refine VIf.tt ?_ | refine VIf.ff ?_)
  refine VCode.loop cxOK (Nat × Mem × List (List Value))
    (fun (⟨i, M5, rows⟩ : Nat × Mem × List (List Value)) => ⟨[(5, .box 0 0), (7, .v (.bool true)), (8, .v (.int .i64 (kindB cs p))), (10, .v (.slice ud (moveP (x, y) p).length uc)), (12, .row 1), (51, .v (.slice ad cs.length c)), (52, .v (.int .i64 cs.length)), (53, .v (.int .i64 i))],
      [(1, some (.row 46 3 rows.length rows.flatten)), (0, some (.box 39 [.v (.int .i64 x), .v (.int .i64 y)]))], 2, M5, 106, ⟨fun _ => none, none, fun _ => none⟩⟩)
    (fun s => M4.le s.2.1 ∧ s.1 ≤ cs.length ∧ s.2.2.length = s.1 ∧ (∀ r ∈ s.2.2, r.length = 3) ∧ DL CaseD s.2.1 ((cs.take s.1).map (moveC (x, y))) s.2.2 ∧ ∀ j, j < s.1 → ((gc cs j).st.map (moveP (x, y))).all validB = true)
    (fun s => cs.length - s.1) (0, M4, []) ⟨Mem.le_refl _, Nat.zero_le _, rfl, by simp, trivial, fun j hj => by simp at hj⟩ ?_ ?_
  · exact Wk.nil 12 46 3 rfl (Wk.mk' id (by repeat' constructor) (by repeat' constructor) (injOK_id _) rfl rfl rfl)
  rintro ⟨i, M5, rows⟩ ⟨m5', hi, hrl, hr3, hdl, hval⟩ m
  have m5' : M4.le M5 := m5'
  have m5 : M.le M5 := m4.trans m5'
  have hi : i ≤ cs.length := hi
  have hrl : rows.length = i := hrl
  repeat (first | refine VIf.tt ?_ | refine VIf.ff ?_)
  refine VIf.mk (fun hlt => ?_) (fun hge => ?_)
  · have hlt : i < cs.length := lt_of_dec hlt
    obtain ⟨ad', a1, b1, s1, ead, ha, hb1, hs, hc1⟩ := hrd M5 m5 i hlt
    obtain ⟨x1, x2, rfl, _⟩ := ha.get
    obtain ⟨y1, y2, rfl, _⟩ := hb1.get
    obtain ⟨zd, z2, rfl, hzm, hsr⟩ := hs.get
    repeat (first | refine VIf.tt ?_ | refine VIf.ff ?_)
    refine VIdx.mk ad' i ead rfl hlt ?_
    repeat (first | refine VIf.tt ?_ | refine VIf.ff ?_)
    refine VReads.mk [.slice x1 (gc cs i).sn.length x2, .slice y1 (gc cs i).cl.length y2, .slice zd (gc cs i).st.length z2] rfl hc1 ?_
    have hst32 : (gc cs i).st.length ≤ 32 := by
      simp only [casesB, Bool.and_eq_true, all_iff] at hcs
      have := hcs.2 i hlt
      simp only [caseV, case1, regionB, Bool.and_eq_true, decide_eq_true_eq] at this
      exact this.1.1.1.2.1
    repeat (first | refine VIf.tt ?_ | refine VIf.ff ?_)
    refine VCode.loop cxOK (Nat × Mem × List Value)
      (fun (⟨j, M6, ws⟩ : Nat × Mem × List Value) => ⟨[(5, .box 0 0), (7, .v (.bool true)), (8, .v (.int .i64 (kindB cs p))), (10, .v (.slice ud (moveP (x, y) p).length uc)), (12, .row 1), (15, .box 3 0), (51, .v (.slice ad cs.length c)), (52, .v (.int .i64 cs.length)), (53, .v (.int .i64 i)), (63, .v (.slice zd (gc cs i).st.length z2)), (64, .v (.int .i64 (gc cs i).st.length)), (65, .v (.int .i64 j))],
        [(4, some (.row 24 1 ws.length ws)), (3, some (.box 46 [.v (.slice x1 (gc cs i).sn.length x2), .v (.slice y1 (gc cs i).cl.length y2), .row 4])), (1, some (.row 46 3 rows.length rows.flatten)), (0, some (.box 39 [.v (.int .i64 x), .v (.int .i64 y)]))], 5, M6, 106, ⟨fun _ => none, none, fun _ => none⟩⟩)
      (fun s => M5.le s.2.1 ∧ s.1 ≤ (gc cs i).st.length ∧ s.2.2.length = s.1 ∧ PW s.2.1 s.2.2 (((gc cs i).st.take s.1).map (moveP (x, y))) ∧ (((gc cs i).st.take s.1).map (moveP (x, y))).all validB = true)
      (fun s => (gc cs i).st.length - s.1) (0, M5, []) ⟨Mem.le_refl _, Nat.zero_le _, rfl, trivial, rfl⟩ ?_ ?_
    · exact Wk.nilBox 3 46 [.v (.slice x1 (gc cs i).sn.length x2), .v (.slice y1 (gc cs i).cl.length y2)] [] 24 1 rfl (Wk.mk' id (by repeat' constructor) (by repeat' constructor) (injOK_id _) rfl rfl rfl)
    rintro ⟨j, M6, ws⟩ ⟨m6', hj, hwl, hpw, hvj⟩ m
    have m6' : M5.le M6 := m6'
    have m6 : M.le M6 := m5.trans m6'
    have hj : j ≤ (gc cs i).st.length := hj
    have hwl : ws.length = j := hwl
    repeat (first | refine VIf.tt ?_ | refine VIf.ff ?_)
    refine VIf.mk (fun hlj => ?_) (fun hgj => ?_)
    · have hlj : j < (gc cs i).st.length := lt_of_dec hlj
      have hr1 := hsr M6 m6' j hlj
      obtain ⟨zd', w, hr2⟩ := hr1
      obtain ⟨ezd, hw, hw64, hc2⟩ := hr2
      repeat (first | refine VIf.tt ?_ | refine VIf.ff ?_)
      refine VIdx.mk zd' j ezd rfl hlj ?_
      repeat (first | refine VIf.tt ?_ | refine VIf.ff ?_)
      refine VRead.mk _ hc2 ?_
      repeat (first | refine VIf.tt ?_ | refine VIf.ff ?_)
      refine VFn.mk _ (Shift_fn w _ (x, y) M6 hw hw64 hx hy) ?_
      rintro rs M7 hM7 hs7
      rcases hs7 with ⟨e7, he7, rfl⟩ | ⟨u7, rfl, _, hV7, hu7⟩
      · repeat (first | refine VIf.tt ?_ | refine VIf.ff ?_)
        refine VIf.mk (fun _ => ?_) (fun h => absurd (bne_eq_false_iff_eq.1 h) he7)
        repeat (first | refine VIf.tt ?_ | refine VIf.ff ?_)
        exact VFact.mk rfl trivial
      obtain ⟨ud7, uc7, rfl⟩ := hu7.shape
      repeat (first | refine VIf.tt ?_ | refine VIf.ff ?_)
      refine VFact.mk (by simp only; omega) ?_
      repeat (first | refine VIf.tt ?_ | refine VIf.ff ?_)
      refine VArith.ok (by first | omega | (simp only; omega)) (by first | omega | (simp only; omega)) ?_
      have hv7 : (((gc cs i).st.take (j + 1)).map (moveP (x, y))).all validB = true := all_take [] (moveP (x, y)) validB _ hlj hvj hV7
      have hp7 : PW M7 (ws ++ [.slice ud7 (moveP (x, y) ((gc cs i).st.getD j [])).length uc7]) (((gc cs i).st.take (j + 1)).map (moveP (x, y))) := by
        rw [take_mapC [] (moveP (x, y)) _ hlj]
        exact PW.append (PW.le hM7 hpw) ⟨⟨hu7, move_i64 hV7⟩, trivial⟩
      refine ⟨(j + 1, M7, ws ++ [.slice ud7 (moveP (x, y) ((gc cs i).st.getD j [])).length uc7]), ⟨m6'.trans hM7, hlj, by simp [hwl], hp7, hv7⟩, (by first | omega | (simp only; omega)), ?_⟩
      exact Wk.mk' (fun k => if k = 4 then 6 else k) (by repeat' constructor) ⟨⟨rfl, ⟨rfl, rfl, by simp, by simp⟩⟩, ⟨rfl, by repeat' constructor⟩, ⟨rfl, by repeat' constructor⟩, ⟨rfl, by repeat' constructor⟩, trivial⟩ (inj4 _ _ _ _) rfl rfl rfl
    · have : j = (gc cs i).st.length := by have := ge_of_dec hgj; omega
      subst this
      repeat (first | refine VIf.tt ?_ | refine VIf.ff ?_)
      refine VFz.mk fun xs Bs M7 hM7 hxs => ?_
      have hxs : SlAt M7 1 xs ws.length ws := hxs
      obtain ⟨as7, cs7, rfl⟩ := SlAt.shape hxs
      rw [List.take_length] at hpw hvj
      have m67 : M5.le M7 := m6'.trans hM7
      have hreg : RegV M7 (.slice as7 ws.length cs7) ((gc cs i).st.map (moveP (x, y))) := RegV.of_pw hxs (PW.le hM7 hpw)
      have hcd : CaseD M7 (moveC (x, y) (gc cs i)) [.slice x1 (gc cs i).sn.length x2, .slice y1 (gc cs i).cl.length y2, .slice as7 ws.length cs7] := ⟨_, _, _, rfl, ha.le m67, hb1.le m67, hreg⟩
      repeat (first | refine VIf.tt ?_ | refine VIf.ff ?_)
      refine VFact.mk (by simp only; omega) ?_
      repeat (first | refine VIf.tt ?_ | refine VIf.ff ?_)
      refine VArith.ok (by first | omega | (simp only; omega)) (by first | omega | (simp only; omega)) ?_
      refine ⟨(i + 1, M7, rows ++ [[.slice x1 (gc cs i).sn.length x2, .slice y1 (gc cs i).cl.length y2, .slice as7 ws.length cs7]]), ⟨m5'.trans m67, hlt, by simp [hrl], ?_, ?_, ?_⟩, (by first | omega | (simp only; omega)), ?_⟩
      · intro r hr
        rcases List.mem_append.1 hr with hr | hr
        · exact hr3 r hr
        · simp at hr; subst hr; rfl
      · rw [take_mapC (⟨[], [], []⟩ : CaseS) (moveC (x, y)) _ hlt]
        exact DL.snoc hcd (DL.le CaseD.le m67 hdl)
      · intro k hk
        by_cases e : k = i
        · subst e; exact hvj
        · exact hval k (by simp only at hk; omega)
      · exact Wk.mk' (fun k => if k = 1 then 6 else k) (by repeat' constructor) ⟨⟨rfl, ⟨rfl, rfl, by simp, by simp⟩⟩, ⟨rfl, by repeat' constructor⟩, trivial⟩ (inj2 _ _) rfl rfl rfl
  · have : i = cs.length := by have := ge_of_dec hge; omega
    subst this
    repeat (first | refine VIf.tt ?_ | refine VIf.ff ?_)
    refine VFz.mk fun xm Bm M6 hM6 hxm => ?_
    have hxm : SlAt M6 3 xm rows.length rows.flatten := hxm
    rw [List.take_length] at hdl
    have hcm : CasV M6 xm (cs.map (moveC (x, y))) := Arr.of rows hr3 (by rw [List.length_map, ← hrl]; exact hxm) (DL.le CaseD.le hM6 hdl)
    have hrm : raiseB (cs.map (moveC (x, y))) (moveP (x, y) p) = (kindB cs p, 0) := by
      rw [raiseB, cases_move (x, y) hcs hval, hVm, kind_move]; rfl
    repeat (first | refine VIf.tt ?_ | refine VIf.ff ?_)
    refine VFn.mk _ (Raise_is hcm (hu.le (m5'.trans hM6)) (move_i64 hVm) hrm) ?_
    rintro rs M7 hM7 rfl
    repeat (first | refine VIf.tt ?_ | refine VIf.ff ?_)
    refine VFact.mk ?_ trivial
    show [Value.bool (kindB cs p == kindB cs p)] = _
    simp
end Go.Proofs.Ytaobaeiohjgdcaa.alarmMoved
