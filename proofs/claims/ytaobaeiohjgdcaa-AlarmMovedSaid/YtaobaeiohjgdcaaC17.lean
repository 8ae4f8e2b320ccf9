/- Contracts: what is few; the head of the alarm's laws. -/
import Derived.Test.YtaobaeiohjgdcaaC16
namespace Go.Proofs.Ytaobaeiohjgdcaa
open Go Go.V Go.RowKit
theorem Few03_fn (v : Value) (ps : List Pt) (M : Mem) (hv : Pts M v ps) : FnP Try.prog 18 [v] M [.bool (decide (ps.length ≤ 80))] := by
  obtain ⟨ad, c, rfl⟩ := hv.shape
  refine Fn.of_vc cxOK Try.func18 rfl rfl rfl ?_
  repeat (first | refine VIf.tt ?_ | refine VIf.ff ?_)
  refine VFact.mk ⟨bool1 ?_, rfl⟩ trivial
  simp only [decide_eq_true_eq]; omega
theorem Few07_fn (v : Value) (r : List (List Pt)) (M : Mem) (hv : RegV M v r) : V.Fn Try.prog 46 [v] M fun rs _ => ∃ b, rs = [.bool b] := by
  obtain ⟨ad, c, rfl, hm, hrd⟩ := hv.get
  refine Fn.of_vc cxOK Try.func46 rfl rfl rfl ?_
  repeat (first | refine VIf.tt ?_ | refine VIf.ff ?_)
  refine VCode.loop cxOK (Nat × Int) (fun s => ⟨[(0, .v (.slice ad r.length c)), (3, .v (.int .i64 s.2)), (4, .v (.int .i64 s.1))], [], 0, M, 29, ⟨fun _ => none, none, fun _ => none⟩⟩)
    (fun s => s.1 ≤ r.length) (fun s => r.length - s.1) (0, 0) (Nat.zero_le _) (Wk.mk' id (by repeat' constructor) (by repeat' constructor) (injOK_id _) rfl rfl rfl) ?_
  rintro ⟨i, n⟩ hi m
  have hi : i ≤ r.length := hi
  have done : ∀ {b : Bool}, ∃ b', [Value.bool b] = [.bool b'] := fun {b} => ⟨b, rfl⟩
  repeat (first | refine VIf.tt ?_ | refine VIf.ff ?_)
  refine VIf.mk (fun hlt => ?_) (fun hge => ?_)
  · have hlt : i < r.length := lt_of_dec hlt
    repeat (first | refine VIf.tt ?_ | refine VIf.ff ?_)
    refine VIf.mk (fun h9 => ?_) (fun h9 => ?_)
    · obtain ⟨ad', w, rfl, hp, _, hc1⟩ := hrd M (Mem.le_refl _) i hlt
      obtain ⟨wd, wc, rfl⟩ := hp.shape
      repeat (first | refine VIf.tt ?_ | refine VIf.ff ?_)
      refine VIdx.mk ad' i rfl rfl hlt ?_
      repeat (first | refine VIf.tt ?_ | refine VIf.ff ?_)
      refine VRead.mk _ hc1 ?_
      repeat (first | refine VIf.tt ?_ | refine VIf.ff ?_)
      refine VArith.wr ?_
      repeat (first | refine VIf.tt ?_ | refine VIf.ff ?_)
      refine VArith.ok (by first | omega | (simp only; omega)) (by first | omega | (simp only; omega)) ?_
      exact ⟨(i + 1, _), hlt, (by first | omega | (simp only; omega)), (Wk.mk' id (by repeat' constructor) (by repeat' constructor) (injOK_id _) rfl rfl rfl)⟩
    · repeat (first | refine VIf.tt ?_ | refine VIf.ff ?_)
      refine VIf.mk (fun hb => ?_) (fun hb => ?_)
      · repeat (first | refine VIf.tt ?_ | refine VIf.ff ?_)
        exact VFact.mk done trivial
      · repeat (first | refine VIf.tt ?_ | refine VIf.ff ?_)
        exact VFact.mk done trivial
  · repeat (first | refine VIf.tt ?_ | refine VIf.ff ?_)
    refine VIf.mk (fun hb => ?_) (fun hb => ?_)
    · repeat (first | refine VIf.tt ?_ | refine VIf.ff ?_)
      exact VFact.mk done trivial
    · repeat (first | refine VIf.tt ?_ | refine VIf.ff ?_)
      exact VFact.mk done trivial
theorem Few22_fn (v : Value) (cs : List CaseS) (M : Mem) (hv : CasV M v cs) : V.Fn Try.prog 16 [v] M fun rs _ => ∃ b, rs = [.bool b] ∧ (b = true → cs.length ≤ 8) := by
  obtain ⟨ad, c, rfl, hm, hrd⟩ := hv.get
  refine Fn.of_vc cxOK Try.func16 rfl rfl rfl ?_
  repeat (first | refine VIf.tt ?_ | refine VIf.ff ?_)
  refine VCode.loop cxOK (Nat × Mem) (fun s => ⟨[(0, .v (.slice ad cs.length c)), (3, .v (.int .i64 s.1))], [], 0, s.2, 53, ⟨fun _ => none, none, fun _ => none⟩⟩)
    (fun s => M.le s.2 ∧ s.1 ≤ cs.length) (fun s => cs.length - s.1) (0, M) ⟨Mem.le_refl _, Nat.zero_le _⟩ (Wk.mk' id (by repeat' constructor) (by repeat' constructor) (injOK_id _) rfl rfl rfl) ?_
  rintro ⟨i, M1⟩ ⟨hM1, hi⟩ m
  have hi : i ≤ cs.length := hi
  have hM1 : M.le M1 := hM1
  have no : ∃ b', [Value.bool false] = [.bool b'] ∧ (b' = true → cs.length ≤ 8) := ⟨false, rfl, by simp⟩
  have done : ∃ b', [Value.bool (decide ((cs.length : Int) ≤ 8))] = [.bool b'] ∧ (b' = true → cs.length ≤ 8) := ⟨_, rfl, fun h => by have := of_decide_eq_true h; omega⟩
  repeat (first | refine VIf.tt ?_ | refine VIf.ff ?_)
  refine VIf.mk (fun hlt => ?_) (fun hge => ?_)
  · have hlt : i < cs.length := lt_of_dec hlt
    repeat (first | refine VIf.tt ?_ | refine VIf.ff ?_)
    refine VIf.mk (fun h9 => ?_) (fun h9 => ?_)
    · obtain ⟨ad', a, b, s, rfl, ha, hb, hs, hc1⟩ := hrd M1 hM1 i hlt
      obtain ⟨x1, x2, rfl, _⟩ := ha.get
      obtain ⟨y1, y2, rfl, _⟩ := hb.get
      obtain ⟨z1, z2, rfl⟩ := hs.shape
      repeat (first | refine VIf.tt ?_ | refine VIf.ff ?_)
      refine VIdx.mk ad' i rfl rfl hlt ?_
      repeat (first | refine VIf.tt ?_ | refine VIf.ff ?_)
      refine VRead.mk _ (hc1 2 _ rfl) ?_
      repeat (first | refine VIf.tt ?_ | refine VIf.ff ?_)
      refine VFn.mk _ (Few07_fn _ _ M1 hs) ?_
      rintro rs M2 hM2 ⟨f, rfl⟩
      have hc2 : ∀ j y, _ → M2.cell _ = some y := fun j y h => Mem.cell_le hM2 (hc1 j y h)
      repeat (first | refine VIf.tt ?_ | refine VIf.ff ?_)
      refine VIf.mk (fun h1 => ?_) (fun h1 => ?_)
      · repeat (first | refine VIf.tt ?_ | refine VIf.ff ?_)
        exact VFact.mk no trivial
      repeat (first | refine VIf.tt ?_ | refine VIf.ff ?_)
      refine VIdx.mk ad' i rfl rfl hlt ?_
      repeat (first | refine VIf.tt ?_ | refine VIf.ff ?_)
      refine VRead.mk _ (hc2 2 _ rfl) ?_
      repeat (first | refine VIf.tt ?_ | refine VIf.ff ?_)
      refine VIf.mk (fun h2 => ?_) (fun h2 => ?_)
      · repeat (first | refine VIf.tt ?_ | refine VIf.ff ?_)
        exact VFact.mk no trivial
      repeat (first | refine VIf.tt ?_ | refine VIf.ff ?_)
      refine VIdx.mk ad' i rfl rfl hlt ?_
      repeat (first | refine VIf.tt ?_ | refine VIf.ff ?_)
      refine VRead.mk _ (hc2 0 _ rfl) ?_
      repeat (first | refine VIf.tt ?_ | refine VIf.ff ?_)
      refine VIf.mk (fun h3 => ?_) (fun h3 => ?_)
      · repeat (first | refine VIf.tt ?_ | refine VIf.ff ?_)
        exact VFact.mk no trivial
      repeat (first | refine VIf.tt ?_ | refine VIf.ff ?_)
      refine VIdx.mk ad' i rfl rfl hlt ?_
      repeat (first | refine VIf.tt ?_ | refine VIf.ff ?_)
      refine VRead.mk _ (hc2 1 _ rfl) ?_
      repeat (first | refine VIf.tt ?_ | refine VIf.ff ?_)
      refine VIf.mk (fun h4 => ?_) (fun h4 => ?_)
      · repeat (first | refine VIf.tt ?_ | refine VIf.ff ?_)
        exact VFact.mk no trivial
      repeat (first | refine VIf.tt ?_ | refine VIf.ff ?_)
      refine VArith.ok (by first | omega | (simp only; omega)) (by first | omega | (simp only; omega)) ?_
      exact ⟨(i + 1, M2), ⟨hM1.trans hM2, hlt⟩, (by first | omega | (simp only; omega)), (Wk.mk' id (by repeat' constructor) (by repeat' constructor) (injOK_id _) rfl rfl rfl)⟩
    · repeat (first | refine VIf.tt ?_ | refine VIf.ff ?_)
      exact VFact.mk done trivial
  · repeat (first | refine VIf.tt ?_ | refine VIf.ff ?_)
    exact VFact.mk done trivial
theorem Few23_fn (v : Value) (bs : List BelS) (M : Mem) (hv : BelsV M v bs) : V.Fn Try.prog 17 [v] M fun rs _ => ∃ b, rs = [.bool b] := by
  obtain ⟨ad, c, rfl, hm, hrd⟩ := hv.get
  refine Fn.of_vc cxOK Try.func17 rfl rfl rfl ?_
  repeat (first | refine VIf.tt ?_ | refine VIf.ff ?_)
  refine VIf.mk (fun h0 => ?_) (fun h0 => ?_)
  · repeat (first | refine VIf.tt ?_ | refine VIf.ff ?_)
    refine VIf.mk (fun h1 => ?_) (fun h1 => ?_)
    · repeat (first | refine VIf.tt ?_ | refine VIf.ff ?_)
      exact VFact.mk (⟨_, rfl⟩ : ∃ b, _ = [Value.bool b]) trivial
    · repeat (first | refine VIf.tt ?_ | refine VIf.ff ?_)
      exact VFact.mk (⟨_, rfl⟩ : ∃ b, _ = [Value.bool b]) trivial
  repeat (first | refine VIf.tt ?_ | refine VIf.ff ?_)
  refine VCode.loop cxOK (Nat × Mem) (fun s => ⟨[(0, .v (.slice ad bs.length c)), (3, .v (.int .i64 s.1))], [], 0, s.2, 30, ⟨fun _ => none, none, fun _ => none⟩⟩)
    (fun s => M.le s.2 ∧ s.1 ≤ bs.length) (fun s => bs.length - s.1) (0, M) ⟨Mem.le_refl _, Nat.zero_le _⟩ (Wk.mk' id (by repeat' constructor) (by repeat' constructor) (injOK_id _) rfl rfl rfl) ?_
  rintro ⟨i, M1⟩ ⟨hM1, hi⟩ m
  have hi : i ≤ bs.length := hi
  have hM1 : M.le M1 := hM1
  repeat (first | refine VIf.tt ?_ | refine VIf.ff ?_)
  refine VIf.mk (fun hlt => ?_) (fun hge => ?_)
  · have hlt : i < bs.length := lt_of_dec hlt
    obtain ⟨ad', u, rfl, _, hu, hc1⟩ := hrd M1 hM1 i hlt
    repeat (first | refine VIf.tt ?_ | refine VIf.ff ?_)
    refine VIdx.mk ad' i rfl rfl hlt ?_
    repeat (first | refine VIf.tt ?_ | refine VIf.ff ?_)
    refine VRead.mk u (hc1 1 _ rfl) ?_
    repeat (first | refine VIf.tt ?_ | refine VIf.ff ?_)
    refine VFn.mk _ (Few22_fn u _ M1 hu) ?_
    rintro rs M2 hM2 ⟨f, rfl, _⟩
    repeat (first | refine VIf.tt ?_ | refine VIf.ff ?_)
    refine VIf.mk (fun h1 => ?_) (fun h1 => ?_)
    · repeat (first | refine VIf.tt ?_ | refine VIf.ff ?_)
      exact VFact.mk (⟨_, rfl⟩ : ∃ b, _ = [Value.bool b]) trivial
    · repeat (first | refine VIf.tt ?_ | refine VIf.ff ?_)
      refine VArith.ok (by first | omega | (simp only; omega)) (by first | omega | (simp only; omega)) ?_
      exact ⟨(i + 1, M2), ⟨hM1.trans hM2, hlt⟩, (by first | omega | (simp only; omega)), (Wk.mk' id (by repeat' constructor) (by repeat' constructor) (injOK_id _) rfl rfl rfl)⟩
  · repeat (first | refine VIf.tt ?_ | refine VIf.ff ?_)
    exact VFact.mk (⟨_, rfl⟩ : ∃ b, _ = [Value.bool b]) trivial
theorem at_fn (x y : Int) (M : Mem) : FnP Try.prog 45 [.int .i64 x, .int .i64 y] M [pt x y] := by
  refine Fn.of_vc cxOK Try.func45 rfl rfl rfl ?_
  repeat (first | refine VIf.tt ?_ | refine VIf.ff ?_)
  exact VFact.mk ⟨rfl, rfl⟩ trivial
/-- The elements, one by one. -/
def DL {α : Type} (D : Mem → α → List Value → Prop) (M : Mem) : List α → List (List Value) → Prop
  | [], [] => True
  | x :: l, r :: rows => D M x r ∧ DL D M l rows
  | _, _ => False
theorem DL.get {α : Type} {D : Mem → α → List Value → Prop} {M : Mem} : ∀ {l : List α} {rows : List (List Value)}, DL D M l rows → rows.length = l.length ∧ ∀ (i : Nat) (x : α) (r : List Value), l[i]? = some x → rows[i]? = some r → D M x r
  | [], [], _ => ⟨rfl, fun i x r h => by simp at h⟩
  | x :: l, r :: rows, h => by
    obtain ⟨h1, h2⟩ := DL.get h.2
    refine ⟨by simp [h1], fun i y s hy hs => ?_⟩
    match i, hy, hs with
    | 0, hy, hs => simp at hy hs; subst hy hs; exact h.1
    | i + 1, hy, hs => exact h2 i y s (by simpa using hy) (by simpa using hs)
  | [], _ :: _, h => h.elim
  | _ :: _, [], h => h.elim
theorem Arr.of {α : Type} {D : Mem → α → List Value → Prop} {M : Mem} {k : Nat} {v : Value} {l : List α} (rows : List (List Value)) (hk : ∀ r ∈ rows, r.length = k) (h : SlAt M k v l.length rows.flatten) (hd : DL D M l rows) : Arr D M k v l :=
  ⟨rows, hd.get.1, hk, h, hd.get.2⟩
theorem SlAt.nil (M : Mem) (k : Nat) : SlAt M k (.slice none 0 0) 0 [] := ⟨none, 0, rfl, Nat.le_refl _, Nat.zero_le _, by simp, by simp, fun h => absurd h (Nat.lt_irrefl _)⟩
theorem IntsV.nil (M : Mem) : IntsV M (.slice none 0 0) [] := Arr.of [] (by simp) (SlAt.nil M 1) trivial
theorem RegV.nil (M : Mem) : RegV M (.slice none 0 0) [] := Arr.of [] (by simp) (SlAt.nil M 1) trivial
theorem CasV.nil (M : Mem) : CasV M (.slice none 0 0) [] := Arr.of [] (by simp) (SlAt.nil M 3) trivial
theorem RegV.of1 {M : Mem} {s p : Value} {ps : List Pt} (h : SlAt M 1 s 1 [p]) (hp : Pts M p ps) (h64 : i64P ps) : RegV M s [ps] :=
  Arr.of [[p]] (by simp) h ⟨⟨p, rfl, hp, h64⟩, trivial⟩
theorem CasV.of1 {M : Mem} {c s : Value} {st : List (List Pt)} (h : SlAt M 3 c 1 [.slice none 0 0, .slice none 0 0, s]) (hs : RegV M s st) : CasV M c [⟨[], [], st⟩] :=
  Arr.of [[.slice none 0 0, .slice none 0 0, s]] (by simp) h ⟨⟨_, _, _, rfl, IntsV.nil M, IntsV.nil M, hs⟩, trivial⟩
instance (x : Int) : Decidable (i64r x) := by unfold i64r; infer_instance
theorem i64_of {ps : List Pt} (h : (ps.all fun p => decide (i64r p.1) && decide (i64r p.2)) = true) : i64P ps := fun i hi => by
  have := all_at (0, 0) h hi
  simp only [Bool.and_eq_true, decide_eq_true_eq] at this
  exact this
theorem SlAt.shape {M : Mem} {k n : Nat} {v : Value} {xs : List Value} (h : SlAt M k v n xs) : ∃ a c, v = .slice a n c := let ⟨a, c, e, _⟩ := h; ⟨a, c, e⟩
theorem Pts.nil (M : Mem) : Pts M (.slice none 0 0) [] := SlAt.nil M 2
def protH : List Pt := [(0, 0), (10, 0), (10, 10), (0, 10)]
def outH : List CaseS := [⟨[], [], [[(11, 5)]]⟩]
def inH : List CaseS := [⟨[], [], [[(10, 5)]]⟩]
set_option maxHeartbeats 4000000 in
theorem head_fn (M : Mem) : V.Fn Try.prog 15 [] M fun rs _ => rs = [.bool true] := by
  refine Fn.of_vc cxOK Try.func15 rfl rfl rfl ?_
  repeat (first | refine VIf.tt ?_ | refine VIf.ff ?_)
  refine VFn.p (at_fn _ _ _) ?_
  repeat (first | refine VIf.tt ?_ | refine VIf.ff ?_)
  refine VFn.p (at_fn _ _ _) ?_
  repeat (first | refine VIf.tt ?_ | refine VIf.ff ?_)
  refine VFn.p (at_fn _ _ _) ?_
  repeat (first | refine VIf.tt ?_ | refine VIf.ff ?_)
  refine VFn.p (at_fn _ _ _) ?_
  repeat (first | refine VIf.tt ?_ | refine VIf.ff ?_)
  refine VFn.p (at_fn _ _ _) ?_
  repeat (first | refine VIf.tt ?_ | refine VIf.ff ?_)
  refine VFz.mk fun p1 _ M1 hM1 hp1 => ?_
  obtain ⟨ap1, cp1, rfl⟩ := SlAt.shape hp1
  have hp1 : Pts M1 _ [(11, 5)] := hp1
  repeat (first | refine VIf.tt ?_ | refine VIf.ff ?_)
  refine VFz.mk fun s1 _ M2 hM2 hs1 => ?_
  obtain ⟨as1, cs1, rfl⟩ := SlAt.shape hs1
  have hs1 : RegV M2 _ [[(11, 5)]] := RegV.of1 hs1 (hp1.le hM2) (i64_of (by decide))
  repeat (first | refine VIf.tt ?_ | refine VIf.ff ?_)
  refine VFn.p (at_fn _ _ _) ?_
  repeat (first | refine VIf.tt ?_ | refine VIf.ff ?_)
  refine VFz.mk fun p2 _ M3 hM3 hp2 => ?_
  obtain ⟨ap2, cp2, rfl⟩ := SlAt.shape hp2
  have hp2 : Pts M3 _ [(10, 5)] := hp2
  repeat (first | refine VIf.tt ?_ | refine VIf.ff ?_)
  refine VFz.mk fun s2 _ M4 hM4 hs2 => ?_
  obtain ⟨as2, cs2, rfl⟩ := SlAt.shape hs2
  have hs2 : RegV M4 _ [[(10, 5)]] := RegV.of1 hs2 (hp2.le hM4) (i64_of (by decide))
  repeat (first | refine VIf.tt ?_ | refine VIf.ff ?_)
  refine VFz.mk fun q _ M5 hM5 hq => ?_
  have hq : Pts M5 q protH := hq
  have hq64 : i64P protH := i64_of (by decide)
  repeat (first | refine VIf.tt ?_ | refine VIf.ff ?_)
  refine VFn.mk _ (Raise_fn _ q [] _ M5 (CasV.nil M5) hq hq64) ?_
  rintro rs M6 hM6 rfl
  rw [show raiseB [] protH = (1, 0) by decide]
  repeat (first | refine VIf.tt ?_ | refine VIf.ff ?_)
  refine VFz.mk fun c1 _ M7 hM7 hc1 => ?_
  obtain ⟨ac1, cc1, rfl⟩ := SlAt.shape hc1
  have hc1 : CasV M7 _ outH := CasV.of1 hc1 (hs1.le ((((hM3.trans hM4).trans hM5).trans hM6).trans hM7))
  repeat (first | refine VIf.tt ?_ | refine VIf.ff ?_)
  refine VFn.mk _ (Raise_fn _ q outH _ M7 hc1 (hq.le (hM6.trans hM7)) hq64) ?_
  rintro rs M8 hM8 rfl
  rw [show raiseB outH protH = (2, 0) by decide]
  repeat (first | refine VIf.tt ?_ | refine VIf.ff ?_)
  refine VFz.mk fun c2 _ M9 hM9 hc2 => ?_
  obtain ⟨ac2, cc2, rfl⟩ := SlAt.shape hc2
  have hc2 : CasV M9 _ inH := CasV.of1 hc2 (hs2.le ((((hM5.trans hM6).trans hM7).trans hM8).trans hM9))
  repeat (first | refine VIf.tt ?_ | refine VIf.ff ?_)
  refine VFn.mk _ (Raise_fn _ q inH _ M9 hc2 (hq.le (((hM6.trans hM7).trans hM8).trans hM9)) hq64) ?_
  rintro rs M10 hM10 rfl
  rw [show raiseB inH protH = (0, 0) by decide]
  repeat (first | refine VIf.tt ?_ | refine VIf.ff ?_)
  refine VFn.mk _ (Raise_fn _ _ inH [] M10 (hc2.le hM10) (Pts.nil _) (i64_of rfl)) ?_
  rintro rs M11 hM11 rfl
  rw [show raiseB inH [] = (0, 1) by decide]
  repeat (first | refine VIf.tt ?_ | refine VIf.ff ?_)
  refine VFz.mk fun b1 _ M12 hM12 hb1 => ?_
  obtain ⟨ab1, cb1, rfl⟩ := SlAt.shape hb1
  have hc1' : CasV M12 _ outH := hc1.le ((((hM8.trans hM9).trans hM10).trans hM11).trans hM12)
  have hc2' : CasV M12 _ inH := hc2.le ((hM10.trans hM11).trans hM12)
  have hq12 : Pts M12 q protH := hq.le ((((((hM6.trans hM7).trans hM8).trans hM9).trans hM10).trans hM11).trans hM12)
  have hb1 : BelsV M12 _ [⟨0, inH⟩, ⟨5, outH⟩, ⟨5, []⟩] :=
    Arr.of [[.int .i64 0, .slice ac2 1 cc2], [.int .i64 5, .slice ac1 1 cc1], [.int .i64 5, .slice none 0 0]] (by simp) hb1
      ⟨⟨_, rfl, by decide, hc2'⟩, ⟨_, rfl, by decide, hc1'⟩, ⟨_, rfl, by decide, CasV.nil _⟩, trivial⟩
  repeat (first | refine VIf.tt ?_ | refine VIf.ff ?_)
  refine VFn.mk _ (First_fn _ q _ protH M12 hb1 hq12 hq64) ?_
  rintro rs M13 hM13 rfl
  rw [show firstB [⟨0, inH⟩, ⟨5, outH⟩, ⟨5, []⟩] protH = (1, 2, 0) by decide]
  repeat (first | refine VIf.tt ?_ | refine VIf.ff ?_)
  refine VFz.mk fun b2 _ M14 hM14 hb2 => ?_
  obtain ⟨ab2, cb2, rfl⟩ := SlAt.shape hb2
  have hb2 : BelsV M14 _ [⟨0, inH⟩] :=
    Arr.of [[.int .i64 0, .slice ac2 1 cc2]] (by simp) hb2 ⟨⟨_, rfl, by decide, hc2'.le (hM13.trans hM14)⟩, trivial⟩
  repeat (first | refine VIf.tt ?_ | refine VIf.ff ?_)
  refine VFn.mk _ (First_fn _ q _ protH M14 hb2 (hq12.le (hM13.trans hM14)) hq64) ?_
  rintro rs M15 hM15 rfl
  rw [show firstB [⟨0, inH⟩] protH = (1, 0, 0) by decide]
  repeat (first | refine VIf.tt ?_ | refine VIf.ff ?_)
  refine VFact.mk ?_ trivial
  rfl
end Go.Proofs.Ytaobaeiohjgdcaa
