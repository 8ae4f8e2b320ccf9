import Derived.Test.YtegmjmdkhbibjaaGreatHa8
set_option linter.unusedVariables false
set_option linter.unusedSimpArgs false
/- The example at the head of the laws of translation. Printed by gen_head30.py. -/
namespace Go.Proofs.YtegmjmdkhbibjaaGreat
open Go Go.V Go.RowKit
def spA : Pt := (100, 200)
def spC : Pt := (150, 300)
def oldH : ChartS := rowS 10 [spA, spC]
def nexH : ChartS := rowS 5 [spA, spA, spC, (0, 300)]
def othH : ChartS := rowS 5 [spA, spA, spA, spC]
/-- What the drawn region has made so far. -/
structure HD where
  M : Mem
  Mp : Mem
  x1 : Value
  x2 : Value
  x3 : Value
  a1 : Option Addr
  k1 : Nat
  a2 : Option Addr
  k2 : Nat
  B : Nat
  cp : Nat
  arr : Array Value
  Et : Nat
def ifc {α : Type} (b : Bool) (x : α) (l : List α) : List α := match b with
  | true => x :: l
  | false => l
def nilV : Value := .slice none 0 0
def agA : SV := .v (.agg #[.int .i64 100, .int .i64 200])
def agC : SV := .v (.agg #[.int .i64 150, .int .i64 300])
def zeroB : OE := .box 26 [.v (.int .i64 0), .v (.int .i64 0), .v (.int .i64 0), .v (.int .i64 0), .v (.int .i64 0), .v (.int .i64 0), .v (.slice none 0 0), .v (.slice none 0 0), .v (.slice none 0 0)]
def hSl (b1 c1 b2 c2 b3 c3 a3 a4 a5 : Bool) (s : HD) : List (Nat × SV) :=
  (23, agA) :: (24, agC) :: (27, agA) :: (28, agA) :: (29, agC) :: (30, .v (.agg #[.int .i64 0, .int .i64 300])) :: (33, agA) :: (34, agA) :: (35, agA) :: (36, agC) ::
    ifc b1 (25, .v s.x1) (ifc c1 (26, .v (chV oldH (.slice s.a1 2 s.k1) nilV nilV)) (ifc b2 (31, .v s.x2) (ifc c2 (32, .v (chV nexH (.slice s.a2 4 s.k2) nilV nilV)) (ifc b3 (37, .v s.x3)
    (ifc c3 (38, .v (chV othH (.slice (some ⟨s.B, 0, none⟩) 4 s.cp) nilV nilV)) (ifc a3 (3, .box 93 0) (ifc a4 (4, .box 94 0) (ifc a5 (5, .box 95 0) []))))))))
def hOw (c3 a3 a4 a5 : Bool) (s : HD) : List (Nat × Option OE) := ifc a3 (93, some zeroB) (ifc a4 (94, some zeroB) (ifc a5 (95, some zeroB) (ifc c3 (99, some (.nw s.B)) [])))
def hSt (b1 c1 b2 c2 b3 c3 a3 a4 a5 : Bool) (s : HD) (m f : Mem) : St := ⟨hSl b1 c1 b2 c2 b3 c3 a3 a4 a5 s, hOw c3 a3 a4 a5 s, 100, s.M, 134, ⟨m, none, f⟩⟩
def eSt (s : HD) : St := ⟨[(3, .box 0 0), (4, .box 1 0), (5, .box 2 0)], [(0, some (.box 26 (chSV oldH (.slice s.a1 2 s.k1) nilV nilV))), (1, some (.box 26 (chSV nexH (.slice s.a2 4 s.k2) nilV nilV))), (2, some (.box 26 (chSV othH (.slice (some ⟨s.B, 0, none⟩) 4 s.cp) nilV nilV))), (3, some (.nw s.B))], 4, s.M, 134, ⟨fun _ => none, none, fun _ => none⟩⟩
structure OthP (s : HD) : Prop where
  at' : s.M s.B = some (.cells s.arr s.Et (0, 0))
  hn : 4 ≤ s.cp
  hc : s.cp ≤ maxLen
  hs : s.arr.size = s.cp * 4
  ht : s.arr.toList.take (4 * 4) = cellsC (spanC [spA, spA, spA, spC])
  le : s.Mp.le s.M
  no : s.Mp s.B = none
  y1 : CelsV s.Mp (.slice s.a1 2 s.k1) (spanC [spA, spC])
  y2 : CelsV s.Mp (.slice s.a2 4 s.k2) (spanC [spA, spA, spC, (0, 300)])
  y3 : CelsV s.M (.slice (some ⟨s.B, 0, none⟩) 4 s.cp) (spanC [spA, spA, spA, spC])
structure HP (b1 c1 b2 c2 b3 c3 : Bool) (M0 : Mem) (s : HD) : Prop where
  le : M0.le s.M
  p1 : b1 = true → Pts s.M s.x1 [spA, spC]
  y1 : c1 = true → CelsV s.M (.slice s.a1 2 s.k1) (spanC [spA, spC])
  p2 : b2 = true → Pts s.M s.x2 [spA, spA, spC, (0, 300)]
  y2 : c2 = true → CelsV s.M (.slice s.a2 4 s.k2) (spanC [spA, spA, spC, (0, 300)])
  p3 : b3 = true → Pts s.M s.x3 [spA, spA, spA, spC]
  y3 : c3 = true → OthP s
theorem HP.weak {b1 c1 b2 c2 b3 c3 : Bool} {Ma M0 : Mem} {s : HD} (h : HP b1 c1 b2 c2 b3 c3 M0 s) (hM : Ma.le M0) : HP b1 c1 b2 c2 b3 c3 Ma s := ⟨hM.trans h.le, h.p1, h.y1, h.p2, h.y2, h.p3, h.y3⟩
theorem OthP.grow {s : HD} (h : OthP s) {M' : Mem} (hM : s.M.le M') (x1 x2 x3 : Value) : OthP { s with M := M', x1 := x1, x2 := x2, x3 := x3 } := ⟨hM _ _ h.at', h.hn, h.hc, h.hs, h.ht, h.le.trans hM, h.no, h.y1, h.y2, h.y3.le hM⟩
theorem HP.sb1 {b1 c1 b2 c2 b3 c3 : Bool} {M0 : Mem} {s : HD} (h : HP b1 c1 b2 c2 b3 c3 M0 s) {M' : Mem} (hM : s.M.le M') {x : Value} (hx : Pts M' x [spA, spC]) : HP true c1 b2 c2 b3 c3 M0 { s with M := M', x1 := x } :=
  ⟨h.le.trans hM, fun _ => hx, fun e => (h.y1 e).le hM, fun e => SlAt.le hM (h.p2 e), fun e => (h.y2 e).le hM, fun e => SlAt.le hM (h.p3 e), fun e => (h.y3 e).grow hM _ _ _⟩
theorem HP.sb2 {b1 c1 b2 c2 b3 c3 : Bool} {M0 : Mem} {s : HD} (h : HP b1 c1 b2 c2 b3 c3 M0 s) {M' : Mem} (hM : s.M.le M') {x : Value} (hx : Pts M' x [spA, spA, spC, (0, 300)]) : HP b1 c1 true c2 b3 c3 M0 { s with M := M', x2 := x } :=
  ⟨h.le.trans hM, fun e => SlAt.le hM (h.p1 e), fun e => (h.y1 e).le hM, fun _ => hx, fun e => (h.y2 e).le hM, fun e => SlAt.le hM (h.p3 e), fun e => (h.y3 e).grow hM _ _ _⟩
theorem HP.sb3 {b1 c1 b2 c2 b3 c3 : Bool} {M0 : Mem} {s : HD} (h : HP b1 c1 b2 c2 b3 c3 M0 s) {M' : Mem} (hM : s.M.le M') {x : Value} (hx : Pts M' x [spA, spA, spA, spC]) : HP b1 c1 b2 c2 true c3 M0 { s with M := M', x3 := x } :=
  ⟨h.le.trans hM, fun e => SlAt.le hM (h.p1 e), fun e => (h.y1 e).le hM, fun e => SlAt.le hM (h.p2 e), fun e => (h.y2 e).le hM, fun _ => hx, fun e => (h.y3 e).grow hM _ _ _⟩
theorem HP.sc1 {b1 c1 b2 c2 b3 : Bool} {M0 : Mem} {s : HD} (h : HP b1 c1 b2 c2 b3 false M0 s) {M' : Mem} (hM : s.M.le M') {a : Option Addr} {k : Nat} (hy : CelsV M' (.slice a 2 k) (spanC [spA, spC])) : HP b1 true b2 c2 b3 false M0 { s with M := M', a1 := a, k1 := k } :=
  ⟨h.le.trans hM, fun e => SlAt.le hM (h.p1 e), fun _ => hy, fun e => SlAt.le hM (h.p2 e), fun e => (h.y2 e).le hM, fun e => SlAt.le hM (h.p3 e), fun e => (by cases e)⟩
theorem HP.sc2 {b1 c1 b2 c2 b3 : Bool} {M0 : Mem} {s : HD} (h : HP b1 c1 b2 c2 b3 false M0 s) {M' : Mem} (hM : s.M.le M') {a : Option Addr} {k : Nat} (hy : CelsV M' (.slice a 4 k) (spanC [spA, spA, spC, (0, 300)])) : HP b1 c1 b2 true b3 false M0 { s with M := M', a2 := a, k2 := k } :=
  ⟨h.le.trans hM, fun e => SlAt.le hM (h.p1 e), fun e => (h.y1 e).le hM, fun e => SlAt.le hM (h.p2 e), fun _ => hy, fun e => SlAt.le hM (h.p3 e), fun e => (by cases e)⟩
theorem HP.sc3 {b1 b2 b3 c3 : Bool} {M0 : Mem} {s : HD} (h : HP b1 true b2 true b3 c3 M0 s) {M' : Mem} (hM : s.M.le M') {B cp : Nat} {arr : Array Value} {Et : Nat} (q1 : s.M B = none) (q2 : M' B = some (.cells arr Et (0, 0))) (q3 : 4 ≤ cp) (q4 : cp ≤ maxLen) (q5 : arr.size = cp * 4) (q6 : arr.toList.take (4 * 4) = cellsC (spanC [spA, spA, spA, spC]))
    (hy : CelsV M' (.slice (some ⟨B, 0, none⟩) 4 cp) (spanC [spA, spA, spA, spC])) : HP b1 true b2 true b3 true M0 { s with M := M', Mp := s.M, B := B, cp := cp, arr := arr, Et := Et } :=
  ⟨h.le.trans hM, fun e => SlAt.le hM (h.p1 e), fun e => (h.y1 e).le hM, fun e => SlAt.le hM (h.p2 e), fun e => (h.y2 e).le hM, fun e => SlAt.le hM (h.p3 e), fun _ => ⟨q2, q3, q4, q5, q6, hM, q1, h.y1 rfl, h.y2 rfl, hy⟩⟩
instance (c : ChartS) : Decidable (C64 c) := by unfold C64; infer_instance
theorem chaH {M : Mem} {c : ChartS} {a : Value} (hc : CelsV M a c.cs) (h : decide (C64 c) = true) (hb : c.bs = [] := by rfl) (hl : c.ls = [] := by rfl) : Cha M c a nilV nilV :=
  ⟨of_decide_eq_true h, hc, by rw [hb]; exact Arr.of [] (by simp) (SlAt.nil M 3) trivial, by rw [hl]; exact Arr.of [] (by simp) (SlAt.nil M 2) trivial⟩
def othV : ChartS := { othH with cs := [⟨100, 200, 0, false⟩, ⟨100, 200, 0, false⟩, ⟨100, 200, 0, true⟩, ⟨150, 300, 0, false⟩] }
theorem oth_put : rput (cellsC othH.cs) (2 * 4 + 3) [.bool true] = cellsC othV.cs := rfl
theorem oth_len : 2 * 4 + 3 + 1 ≤ (cellsC othH.cs).length := by decide
theorem touchH_1 {M : Mem} {a a2 : Value} (h1 : Cha M oldH a nilV nilV) (h2 : Cha M nexH a2 nilV nilV) : V.Fn Tryz.prog 12 [chV oldH a nilV nilV, .int .i64 0, chV nexH a2 nilV nilV] M fun rs M' => ∃ u, rs = [u, .int .i64 0] ∧ IntsV M' u [0, 1] :=
  (Touch_fn oldH nexH _ _ _ _ _ _ 0 M h1 h2).mono fun rs M' _ h => by
    rw [if_pos (by decide +kernel)] at h
    have e : touC oldH 0 nexH = [0, 1] := by decide +kernel
    rw [e] at h; exact h
theorem touchH_2 {M : Mem} {a a2 : Value} (h1 : Cha M oldH a nilV nilV) (h2 : Cha M nexH a2 nilV nilV) : V.Fn Tryz.prog 12 [chV oldH a nilV nilV, .int .i64 2, chV nexH a2 nilV nilV] M fun rs M' => rs = [nilV, .int .i64 1] :=
  (Touch_fn oldH nexH _ _ _ _ _ _ 2 M h1 h2).mono fun rs M' _ h => by
    rw [if_neg (by decide +kernel)] at h; exact h
theorem cellsH_1 {M : Mem} {a a2 v : Value} (h1 : Cha M oldH a nilV nilV) (h2 : Cha M nexH a2 nilV nilV) (hv : IntsV M v [1, 2]) : V.Fn Tryz.prog 15 [chV nexH a2 nilV nilV, chV oldH a nilV nilV, v] M fun rs M' => ∃ u, rs = [u, .int .i64 0] ∧ IntsV M' u [0, 1] :=
  (Cells_fn nexH oldH _ _ _ _ _ _ v [1, 2] M h2 h1 hv (by decide)).mono fun rs M' _ h => by
    rw [if_pos (by decide +kernel)] at h
    obtain ⟨u, zs, h3, h4, h5⟩ := h
    have e : celC nexH oldH [1, 2] oldH.cs.length = [0, 1] := by decide +kernel
    have h6 := h5.eq (celC_is nexH oldH [1, 2])
    rw [e] at h6
    subst h6
    exact ⟨u, h3, h4⟩
theorem cellsH_2 {M : Mem} {a a2 v : Value} (h1 : Cha M oldH a nilV nilV) (h2 : Cha M nexH a2 nilV nilV) (hv : IntsV M v [1, 1]) : V.Fn Tryz.prog 15 [chV oldH a nilV nilV, chV nexH a2 nilV nilV, v] M fun rs M' => rs = [nilV, .int .i64 1] :=
  (Cells_fn oldH nexH _ _ _ _ _ _ v [1, 1] M h1 h2 hv (by decide)).mono fun rs M' _ h => by
    rw [if_neg (by decide +kernel)] at h; exact h
theorem keepsH_1 {M : Mem} {a a2 : Value} (h1 : Cha M oldH a nilV nilV) (h2 : Cha M nexH a2 nilV nilV) : V.Fn Tryz.prog 17 [chV oldH a nilV nilV, chV nexH a2 nilV nilV] M fun rs _ => rs = [.bool true, .int .i64 0] :=
  (Keeps_fn oldH nexH _ _ _ _ _ _ M h1 h2).mono fun rs M' _ h => by
    rw [if_pos (by decide +kernel), show keepsC oldH nexH = true by decide +kernel] at h; exact h
theorem keepsH_2 {M : Mem} {a a2 : Value} (h1 : Cha M oldH a nilV nilV) (h2 : Cha M othH a2 nilV nilV) : V.Fn Tryz.prog 17 [chV oldH a nilV nilV, chV othH a2 nilV nilV] M fun rs _ => rs = [.bool false, .int .i64 0] :=
  (Keeps_fn oldH othH _ _ _ _ _ _ M h1 h2).mono fun rs M' _ h => by
    rw [if_pos (by decide +kernel), show keepsC oldH othH = false by decide +kernel] at h; exact h
theorem keepsH_3 {M : Mem} {a a2 : Value} (h1 : Cha M oldH a nilV nilV) (h2 : Cha M othV a2 nilV nilV) : V.Fn Tryz.prog 17 [chV oldH a nilV nilV, chV othV a2 nilV nilV] M fun rs _ => rs = [.bool true, .int .i64 0] :=
  (Keeps_fn oldH othV _ _ _ _ _ _ M h1 h2).mono fun rs M' _ h => by
    rw [if_pos (by decide +kernel), show keepsC oldH othV = true by decide +kernel] at h; exact h
def bodyOf (f : Func) : Code := match f.body with
  | some c => c
  | none => .skip
/-- What there is behind the sixth step. -/
structure HE where
  M : Mem
  l : Value
  mm : Value
  a1 : Option Addr
  k1 : Nat
  a2 : Option Addr
  k2 : Nat
  Et : Nat
  xs : List Value
structure HEP (s : HE) : Prop where
  l : IntsV s.M s.l [0, 1]
  mm : IntsV s.M s.mm [0, 1]
  h1 : Cha s.M oldH (.slice s.a1 2 s.k1) nilV nilV
  h2 : Cha s.M nexH (.slice s.a2 4 s.k2) nilV nilV
  xs : cellsC othH.cs = s.xs
def fSt (s : HE) : St := ⟨[(3, .box 0 0), (4, .box 1 0), (5, .box 2 0), (6, .v s.l), (7, .v (.int .i64 0)), (8, .v s.mm), (9, .v (.int .i64 0)), (10, .v (.bool true)), (11, .v (.int .i64 0)), (12, .v (.bool false)), (13, .v (.int .i64 0))],
  [(0, some (.box 26 (chSV oldH (.slice s.a1 2 s.k1) nilV nilV))), (1, some (.box 26 (chSV nexH (.slice s.a2 4 s.k2) nilV nilV))), (2, some (.box 26 [.v (.int .i64 1), .v (.int .i64 0), .v (.int .i64 0), .v (.int .i64 4), .v (.int .i64 1), .v (.int .i64 5), .row 3, .v nilV, .v nilV])), (3, some (.row s.Et 4 4 s.xs))],
  4, s.M, 134, ⟨fun _ => none, none, fun _ => none⟩⟩
structure HEQ (s : HE) : Prop where
  l : IntsV s.M s.l [0, 1]
  mm : IntsV s.M s.mm [0, 1]
  h1 : Cha s.M oldH (.slice s.a1 2 s.k1) nilV nilV
  h2 : Cha s.M nexH (.slice s.a2 4 s.k2) nilV nilV
  xs : cellsC othV.cs = s.xs
set_option maxRecDepth 20000 in
set_option maxHeartbeats 4000000 in
theorem headC (s : HE) (m f : Mem) (hp : HEQ s) : VCode Tryz.prog (dropC 1 (dropC 7 (bodyOf Tryz.f10))) ⟨(fSt s).sl, (fSt s).ow, 4, s.M, 134, ⟨m, none, f⟩⟩ (fin cxI Tryz.f10 fun rs _ => rs = [.bool true]) := by
  repeat (first | refine VIf.tt ?_ | refine VIf.ff ?_)
  refine VCode.of_vc cxIOK ?_
  obtain ⟨M7, l, mm, a1, k1, a2, k2, Et, xs0⟩ := s
  obtain ⟨hl7, hmm7, h1, h2, ex0⟩ := hp
  simp only at hl7 hmm7 h1 h2 ex0
  repeat (first | refine VIf.tt ?_ | refine VIf.ff ?_)
  refine VFz.mk fun x8 _ M8 hM8 hx8 => ?_
  have hx8 : SlAt M8 4 x8 4 xs0 := hx8
  rw [← ex0] at hx8
  have y8 : CelsV M8 x8 othV.cs := CelsV.of hx8 (by decide)
  obtain ⟨a8, c8, rfl⟩ := y8.shape
  have m8 := hM8
  have h8 : Cha M8 othV (.slice a8 4 c8) nilV nilV := chaH y8 (by decide)
  repeat (first | refine VIf.tt ?_ | refine VIf.ff ?_)
  refine VOwn.frz ?_
  repeat (first | refine VIf.tt ?_ | refine VIf.ff ?_)
  refine VFn.mk _ (keepsH_3 (h1.le m8) h8) ?_
  rintro rs M9 hM9 rfl
  have m9 := m8.trans hM9
  repeat (first | refine VIf.tt ?_ | refine VIf.ff ?_)
  refine VOwn.frz ?_
  repeat (first | refine VIf.tt ?_ | refine VIf.ff ?_)
  refine VFn.mk _ (touchH_2 (h1.le m9) (h2.le m9)) ?_
  rintro rs M10 hM10 rfl
  have m10 := m9.trans hM10
  repeat (first | refine VIf.tt ?_ | refine VIf.ff ?_)
  refine VOwn.frz ?_
  repeat (first | refine VIf.tt ?_ | refine VIf.ff ?_)
  refine VFz.mk fun x11 _ M11 hM11 hx11 => ?_
  have i11 : IntsV M11 x11 [1, 1] := IntsV.of hx11 (by decide)
  have m11 := m10.trans hM11
  repeat (first | refine VIf.tt ?_ | refine VIf.ff ?_)
  refine VFn.mk _ (cellsH_2 (h1.le m11) (h2.le m11) i11) ?_
  rintro rs M12 hM12 rfl
  have q12 := hM8.trans (hM9.trans (hM10.trans (hM11.trans hM12)))
  repeat (first | refine VIf.tt ?_ | refine VIf.ff ?_)
  repeat (first | refine VIf.tt ?_ | refine VIf.ff ?_)
  refine VOwn.frz ?_
  repeat (first | refine VIf.tt ?_ | refine VIf.ff ?_)
  refine VFz.mk fun x13 _ M13 hM13 hx13 => ?_
  have i13 : IntsV M13 x13 [0, 1] := IntsV.of hx13 (by decide)
  repeat (first | refine VIf.tt ?_ | refine VIf.ff ?_)
  refine VFn.p (SameInts15_fn l x13 [0, 1] [0, 1] M13 (hl7.le (q12.trans hM13)) i13) ?_
  repeat (first | refine VIf.tt ?_ | refine VIf.ff ?_)
  repeat (first | refine VIf.tt ?_ | refine VIf.ff ?_)
  refine VOwn.frz ?_
  repeat (first | refine VIf.tt ?_ | refine VIf.ff ?_)
  refine VFz.mk fun x14 _ M14 hM14 hx14 => ?_
  have i14 : IntsV M14 x14 [0, 1] := IntsV.of hx14 (by decide)
  repeat (first | refine VIf.tt ?_ | refine VIf.ff ?_)
  refine VFn.p (SameInts15_fn mm x14 [0, 1] [0, 1] M14 (hmm7.le (q12.trans (hM13.trans hM14))) i14) ?_
  repeat (first | refine VIf.tt ?_ | refine VIf.ff ?_)
  repeat (first | refine VIf.tt ?_ | refine VIf.ff ?_)
  exact VFact.mk rfl trivial
set_option maxRecDepth 20000 in
set_option maxHeartbeats 4000000 in
theorem headB (s : HE) (m f : Mem) (hp : HEP s) : VCode Tryz.prog (dropC 7 (bodyOf Tryz.f10)) ⟨(fSt s).sl, (fSt s).ow, 4, s.M, 134, ⟨m, none, f⟩⟩ (fin cxI Tryz.f10 fun rs _ => rs = [.bool true]) := by
  obtain ⟨M7, l, mm, a1, k1, a2, k2, Et, xs0⟩ := s
  obtain ⟨hl7, hmm7, h1, h2, ex0⟩ := hp
  simp only at hl7 hmm7 h1 h2 ex0
  repeat (first | refine VIf.tt ?_ | refine VIf.ff ?_)
  refine VCode.cut cxIOK (List Value) (fun xs => fSt ⟨M7, l, mm, a1, k1, a2, k2, Et, xs⟩) (fun xs => xs = cellsC othV.cs) 1 ?_ ?_
  rotate_left
  · rintro xs m2 hxs
    exact headC ⟨M7, l, mm, a1, k1, a2, k2, Et, xs⟩ m2 _ ⟨hl7, hmm7, h1, h2, hxs.symm⟩
  obtain ⟨i2, e2⟩ : ∃ i : Nat, 2 = i := ⟨2, rfl⟩
  have hput : rput xs0 (i2 * 4 + 3) [.bool true] = cellsC othV.cs := by rw [← e2, ← ex0]; exact oth_put
  have hfit : i2 * 4 + 3 + 1 ≤ xs0.length := by rw [← e2, ← ex0]; exact oth_len
  repeat (first | refine VIf.tt ?_ | refine VIf.ff ?_)
  refine VIdxR.mk i2 (by omega) (by omega) ?_
  repeat (first | refine VIf.tt ?_ | refine VIf.ff ?_)
  refine VFact.mk hfit ?_
  exact ⟨_, hput, Wk.mk' id (by repeat' constructor) (by repeat' constructor) (injOK_id _) rfl rfl rfl⟩
set_option maxRecDepth 20000 in
set_option maxHeartbeats 40000000 in
theorem head30_fn (M : Mem) : V.Fn Tryz.prog 10 [] M fun rs _ => rs = [.bool true] := by
  refine Fn.of_vcode (c := bodyOf Tryz.f10) cxIOK Tryz.func10 rfl rfl rfl ?_
  repeat (first | refine VIf.tt ?_ | refine VIf.ff ?_)
  refine VCode.cut cxIOK HE fSt HEP 7 ?_ ?_
  rotate_left
  · rintro s m hp
    exact headB s m _ hp
  repeat (first | refine VIf.tt ?_ | refine VIf.ff ?_)
  refine VDraw.code ?_
  repeat (first | refine VIf.tt ?_ | refine VIf.ff ?_)
  refine VCode.drawsJ cxIOK [1, 2] (by kernel_rfl) HD eSt (HP true true true true true true M) ?_ ?_
  · repeat (first | refine VIf.tt ?_ | refine VIf.ff ?_)
    refine VFzB.mk fun z1 B1 M1 hM1 hB1 => ?_
    repeat (first | refine VIf.tt ?_ | refine VIf.ff ?_)
    refine VFzB.mk fun z2 B2 M2 hM2 hB2 => ?_
    have hB1 : M1 B1 = some (.cells #[.int .i64 100, .int .i64 200] 54 (0, 0)) := hB1
    have hB2 : M2 B2 = some (.cells #[.int .i64 150, .int .i64 300] 54 (0, 0)) := hB2
    have rA : ∀ (j : Nat) (u : Value), [Value.int .i64 100, .int .i64 200][j]? = some u → M2.cell ((⟨B1, 0, none⟩ : Addr).add j) = some u := fun j u hj => cellAt (hM2 _ _ hB1) j (by simpa using hj)
    have rC : ∀ (j : Nat) (u : Value), [Value.int .i64 150, .int .i64 300][j]? = some u → M2.cell ((⟨B2, 0, none⟩ : Addr).add j) = some u := fun j u hj => cellAt hB2 j (by simpa using hj)
    intro T H J Z
    have n111111111 : ∀ (s : HD) (m f : Mem), HP true true true true true true M2 s → T 3 [0, 1, 2, 3, 4, 5, 6, 7, 8, 9, 10, 11, 12, 13, 14, 15, 16, 17, 18] (hSt true true true true true true true true true s m f) := by
      intro s m f hp
      refine H _ _ _ ?_
      repeat (first | refine VIf.tt ?_ | refine VIf.ff ?_)
      refine VFact.mk hp.le ?_
      refine H _ _ _ ?_
      repeat (first | refine VIf.tt ?_ | refine VIf.ff ?_)
      refine VFact.mk hp.le ?_
      refine H _ _ _ ?_
      repeat (first | refine VIf.tt ?_ | refine VIf.ff ?_)
      refine VFact.mk hp.le ?_
      refine H _ _ _ ?_
      exact ⟨s, hp.weak (hM1.trans hM2), Wk.mk' (fun i => if i = 0 then 93 else if i = 1 then 94 else if i = 2 then 95 else if i = 3 then 99 else i) (by repeat' constructor) (by repeat' constructor) (by simp [injOK, eSt]) rfl rfl rfl⟩
    have n111111110 : ∀ (s : HD) (m f : Mem), HP true true true true true true M2 s → T 4 [0, 1, 2, 3, 4, 5, 6, 7, 8, 9, 10, 11, 12, 13, 14, 15, 16, 17] (hSt true true true true true true true true false s m f) := by
      intro s m f hp
      refine H _ _ _ ?_
      refine (VFact.mk hp.le ?_)
      refine J _ _ [0, 1, 2, 3, 4, 5, 6, 7, 8, 9, 10, 11, 12, 13, 14, 15, 16, 17, 18] _ (hSt true true true true true true true true true s m f) rfl (Wk.mk' (fun i => if i = 95 then 100 else i) (by repeat' constructor) (by repeat' constructor) (by simp [injOK, hSt, hOw, ifc]) rfl rfl rfl) ?_
      intro m2
      exact n111111111 _ m2 _ hp
    have n111111101 : ∀ (s : HD) (m f : Mem), HP true true true true true true M2 s → T 4 [0, 1, 2, 3, 4, 5, 6, 7, 8, 9, 10, 11, 12, 13, 14, 15, 16, 18] (hSt true true true true true true true false true s m f) := by
      clear n111111110
      intro s m f hp
      refine H _ _ _ ?_
      refine (VFact.mk hp.le ?_)
      refine J _ _ [0, 1, 2, 3, 4, 5, 6, 7, 8, 9, 10, 11, 12, 13, 14, 15, 16, 17, 18] _ (hSt true true true true true true true true true s m f) rfl (Wk.mk' (fun i => if i = 94 then 100 else i) (by repeat' constructor) (by repeat' constructor) (by simp [injOK, hSt, hOw, ifc]) rfl rfl rfl) ?_
      intro m2
      exact n111111111 _ m2 _ hp
    have n111111011 : ∀ (s : HD) (m f : Mem), HP true true true true true true M2 s → T 4 [0, 1, 2, 3, 4, 5, 6, 7, 8, 9, 10, 11, 12, 13, 14, 15, 17, 18] (hSt true true true true true true false true true s m f) := by
      clear n111111110 n111111101
      intro s m f hp
      refine H _ _ _ ?_
      refine (VFact.mk hp.le ?_)
      refine J _ _ [0, 1, 2, 3, 4, 5, 6, 7, 8, 9, 10, 11, 12, 13, 14, 15, 16, 17, 18] _ (hSt true true true true true true true true true s m f) rfl (Wk.mk' (fun i => if i = 93 then 100 else i) (by repeat' constructor) (by repeat' constructor) (by simp [injOK, hSt, hOw, ifc]) rfl rfl rfl) ?_
      intro m2
      exact n111111111 _ m2 _ hp
    have n111110111 : ∀ (s : HD) (m f : Mem), HP true true true true true false M2 s → T 4 [0, 1, 2, 3, 4, 5, 6, 7, 8, 9, 10, 11, 12, 13, 14, 16, 17, 18] (hSt true true true true true false true true true s m f) := by
      clear n111111110 n111111101 n111111011
      intro s m f hp
      refine H _ _ _ ?_
      refine (VOwn.own ?_)
      refine (VCall.nw (row_fn 5 s.x3 [spA, spA, spA, spC] s.M (hp.p3 rfl) (i64_of (by decide)) (by decide) (by decide)) rfl ?_)
      rintro rs M3 hM ⟨y, rfl, hnw, hy⟩
      obtain ⟨B, cp, arr, Et, rfl, q1, q2, q3, q4, q5, q6⟩ := hnw
      refine ⟨B, _, q1, q2, ?_⟩
      refine (VFact.mk (hp.le.trans hM) ?_)
      refine J _ _ [0, 1, 2, 3, 4, 5, 6, 7, 8, 9, 10, 11, 12, 13, 14, 15, 16, 17, 18] _ (hSt true true true true true true true true true { s with M := M3, Mp := s.M, B := B, cp := cp, arr := arr, Et := Et } m f) rfl (Wk.mk' (fun i => if i = 99 then 100 else i) (by repeat' constructor) (by repeat' constructor) (by simp [injOK, hSt, hOw, ifc]) rfl rfl rfl) ?_
      intro m2
      exact n111111111 _ m2 _ (hp.sc3 hM q1 q2 q3 q4 q5 q6 hy)
    clear n111111111
    have n111111100 : ∀ (s : HD) (m f : Mem), HP true true true true true true M2 s → T 5 [0, 1, 2, 3, 4, 5, 6, 7, 8, 9, 10, 11, 12, 13, 14, 15, 16] (hSt true true true true true true true false false s m f) := by
      clear n111111011 n111110111
      intro s m f hp
      refine H _ _ _ ?_
      refine VBoth.mk ?_ ?_
      · refine (VFact.mk hp.le ?_)
        refine J _ _ [0, 1, 2, 3, 4, 5, 6, 7, 8, 9, 10, 11, 12, 13, 14, 15, 16, 17] _ (hSt true true true true true true true true false s m f) rfl (Wk.mk' (fun i => if i = 94 then 100 else i) (by repeat' constructor) (by repeat' constructor) (by simp [injOK, hSt, hOw, ifc]) rfl rfl rfl) ?_
        intro m2
        exact n111111110 _ m2 _ hp
      · refine (VFact.mk hp.le ?_)
        refine J _ _ [0, 1, 2, 3, 4, 5, 6, 7, 8, 9, 10, 11, 12, 13, 14, 15, 16, 18] _ (hSt true true true true true true true false true s m f) rfl (Wk.mk' (fun i => if i = 95 then 100 else i) (by repeat' constructor) (by repeat' constructor) (by simp [injOK, hSt, hOw, ifc]) rfl rfl rfl) ?_
        intro m2
        exact n111111101 _ m2 _ hp
    have n111111010 : ∀ (s : HD) (m f : Mem), HP true true true true true true M2 s → T 5 [0, 1, 2, 3, 4, 5, 6, 7, 8, 9, 10, 11, 12, 13, 14, 15, 17] (hSt true true true true true true false true false s m f) := by
      clear n111111101 n111110111 n111111100
      intro s m f hp
      refine H _ _ _ ?_
      refine VBoth.mk ?_ ?_
      · refine (VFact.mk hp.le ?_)
        refine J _ _ [0, 1, 2, 3, 4, 5, 6, 7, 8, 9, 10, 11, 12, 13, 14, 15, 16, 17] _ (hSt true true true true true true true true false s m f) rfl (Wk.mk' (fun i => if i = 93 then 100 else i) (by repeat' constructor) (by repeat' constructor) (by simp [injOK, hSt, hOw, ifc]) rfl rfl rfl) ?_
        intro m2
        exact n111111110 _ m2 _ hp
      · refine (VFact.mk hp.le ?_)
        refine J _ _ [0, 1, 2, 3, 4, 5, 6, 7, 8, 9, 10, 11, 12, 13, 14, 15, 17, 18] _ (hSt true true true true true true false true true s m f) rfl (Wk.mk' (fun i => if i = 95 then 100 else i) (by repeat' constructor) (by repeat' constructor) (by simp [injOK, hSt, hOw, ifc]) rfl rfl rfl) ?_
        intro m2
        exact n111111011 _ m2 _ hp
    have n111111001 : ∀ (s : HD) (m f : Mem), HP true true true true true true M2 s → T 5 [0, 1, 2, 3, 4, 5, 6, 7, 8, 9, 10, 11, 12, 13, 14, 15, 18] (hSt true true true true true true false false true s m f) := by
      clear n111111110 n111110111 n111111100 n111111010
      intro s m f hp
      refine H _ _ _ ?_
      refine VBoth.mk ?_ ?_
      · refine (VFact.mk hp.le ?_)
        refine J _ _ [0, 1, 2, 3, 4, 5, 6, 7, 8, 9, 10, 11, 12, 13, 14, 15, 16, 18] _ (hSt true true true true true true true false true s m f) rfl (Wk.mk' (fun i => if i = 93 then 100 else i) (by repeat' constructor) (by repeat' constructor) (by simp [injOK, hSt, hOw, ifc]) rfl rfl rfl) ?_
        intro m2
        exact n111111101 _ m2 _ hp
      · refine (VFact.mk hp.le ?_)
        refine J _ _ [0, 1, 2, 3, 4, 5, 6, 7, 8, 9, 10, 11, 12, 13, 14, 15, 17, 18] _ (hSt true true true true true true false true true s m f) rfl (Wk.mk' (fun i => if i = 94 then 100 else i) (by repeat' constructor) (by repeat' constructor) (by simp [injOK, hSt, hOw, ifc]) rfl rfl rfl) ?_
        intro m2
        exact n111111011 _ m2 _ hp
    have n111110110 : ∀ (s : HD) (m f : Mem), HP true true true true true false M2 s → T 5 [0, 1, 2, 3, 4, 5, 6, 7, 8, 9, 10, 11, 12, 13, 14, 16, 17] (hSt true true true true true false true true false s m f) := by
      clear n111111101 n111111011 n111111100 n111111010 n111111001
      intro s m f hp
      refine H _ _ _ ?_
      refine VBoth.mk ?_ ?_
      · refine (VOwn.own ?_)
        refine (VCall.nw (row_fn 5 s.x3 [spA, spA, spA, spC] s.M (hp.p3 rfl) (i64_of (by decide)) (by decide) (by decide)) rfl ?_)
        rintro rs M3 hM ⟨y, rfl, hnw, hy⟩
        obtain ⟨B, cp, arr, Et, rfl, q1, q2, q3, q4, q5, q6⟩ := hnw
        refine ⟨B, _, q1, q2, ?_⟩
        refine (VFact.mk (hp.le.trans hM) ?_)
        refine J _ _ [0, 1, 2, 3, 4, 5, 6, 7, 8, 9, 10, 11, 12, 13, 14, 15, 16, 17] _ (hSt true true true true true true true true false { s with M := M3, Mp := s.M, B := B, cp := cp, arr := arr, Et := Et } m f) rfl (Wk.mk' (fun i => if i = 99 then 100 else i) (by repeat' constructor) (by repeat' constructor) (by simp [injOK, hSt, hOw, ifc]) rfl rfl rfl) ?_
        intro m2
        exact n111111110 _ m2 _ (hp.sc3 hM q1 q2 q3 q4 q5 q6 hy)
      · refine (VFact.mk hp.le ?_)
        refine J _ _ [0, 1, 2, 3, 4, 5, 6, 7, 8, 9, 10, 11, 12, 13, 14, 16, 17, 18] _ (hSt true true true true true false true true true s m f) rfl (Wk.mk' (fun i => if i = 95 then 100 else i) (by repeat' constructor) (by repeat' constructor) (by simp [injOK, hSt, hOw, ifc]) rfl rfl rfl) ?_
        intro m2
        exact n111110111 _ m2 _ hp
    have n111110101 : ∀ (s : HD) (m f : Mem), HP true true true true true false M2 s → T 5 [0, 1, 2, 3, 4, 5, 6, 7, 8, 9, 10, 11, 12, 13, 14, 16, 18] (hSt true true true true true false true false true s m f) := by
      clear n111111110 n111111011 n111111100 n111111010 n111111001 n111110110
      intro s m f hp
      refine H _ _ _ ?_
      refine VBoth.mk ?_ ?_
      · refine (VOwn.own ?_)
        refine (VCall.nw (row_fn 5 s.x3 [spA, spA, spA, spC] s.M (hp.p3 rfl) (i64_of (by decide)) (by decide) (by decide)) rfl ?_)
        rintro rs M3 hM ⟨y, rfl, hnw, hy⟩
        obtain ⟨B, cp, arr, Et, rfl, q1, q2, q3, q4, q5, q6⟩ := hnw
        refine ⟨B, _, q1, q2, ?_⟩
        refine (VFact.mk (hp.le.trans hM) ?_)
        refine J _ _ [0, 1, 2, 3, 4, 5, 6, 7, 8, 9, 10, 11, 12, 13, 14, 15, 16, 18] _ (hSt true true true true true true true false true { s with M := M3, Mp := s.M, B := B, cp := cp, arr := arr, Et := Et } m f) rfl (Wk.mk' (fun i => if i = 99 then 100 else i) (by repeat' constructor) (by repeat' constructor) (by simp [injOK, hSt, hOw, ifc]) rfl rfl rfl) ?_
        intro m2
        exact n111111101 _ m2 _ (hp.sc3 hM q1 q2 q3 q4 q5 q6 hy)
      · refine (VFact.mk hp.le ?_)
        refine J _ _ [0, 1, 2, 3, 4, 5, 6, 7, 8, 9, 10, 11, 12, 13, 14, 16, 17, 18] _ (hSt true true true true true false true true true s m f) rfl (Wk.mk' (fun i => if i = 94 then 100 else i) (by repeat' constructor) (by repeat' constructor) (by simp [injOK, hSt, hOw, ifc]) rfl rfl rfl) ?_
        intro m2
        exact n111110111 _ m2 _ hp
    have n111110011 : ∀ (s : HD) (m f : Mem), HP true true true true true false M2 s → T 5 [0, 1, 2, 3, 4, 5, 6, 7, 8, 9, 10, 11, 12, 13, 14, 17, 18] (hSt true true true true true false false true true s m f) := by
      clear n111111110 n111111101 n111111100 n111111010 n111111001 n111110110 n111110101
      intro s m f hp
      refine H _ _ _ ?_
      refine VBoth.mk ?_ ?_
      · refine (VOwn.own ?_)
        refine (VCall.nw (row_fn 5 s.x3 [spA, spA, spA, spC] s.M (hp.p3 rfl) (i64_of (by decide)) (by decide) (by decide)) rfl ?_)
        rintro rs M3 hM ⟨y, rfl, hnw, hy⟩
        obtain ⟨B, cp, arr, Et, rfl, q1, q2, q3, q4, q5, q6⟩ := hnw
        refine ⟨B, _, q1, q2, ?_⟩
        refine (VFact.mk (hp.le.trans hM) ?_)
        refine J _ _ [0, 1, 2, 3, 4, 5, 6, 7, 8, 9, 10, 11, 12, 13, 14, 15, 17, 18] _ (hSt true true true true true true false true true { s with M := M3, Mp := s.M, B := B, cp := cp, arr := arr, Et := Et } m f) rfl (Wk.mk' (fun i => if i = 99 then 100 else i) (by repeat' constructor) (by repeat' constructor) (by simp [injOK, hSt, hOw, ifc]) rfl rfl rfl) ?_
        intro m2
        exact n111111011 _ m2 _ (hp.sc3 hM q1 q2 q3 q4 q5 q6 hy)
      · refine (VFact.mk hp.le ?_)
        refine J _ _ [0, 1, 2, 3, 4, 5, 6, 7, 8, 9, 10, 11, 12, 13, 14, 16, 17, 18] _ (hSt true true true true true false true true true s m f) rfl (Wk.mk' (fun i => if i = 93 then 100 else i) (by repeat' constructor) (by repeat' constructor) (by simp [injOK, hSt, hOw, ifc]) rfl rfl rfl) ?_
        intro m2
        exact n111110111 _ m2 _ hp
    have n111100111 : ∀ (s : HD) (m f : Mem), HP true true true true false false M2 s → T 5 [0, 1, 2, 3, 4, 5, 6, 7, 8, 9, 10, 11, 12, 13, 16, 17, 18] (hSt true true true true false false true true true s m f) := by
      clear n111111110 n111111101 n111111011 n111111100 n111111010 n111111001 n111110110 n111110101 n111110011
      intro s m f hp
      refine H _ _ _ ?_
      refine (VFact.mk hp.le ?_)
      refine Z _ _ _ [37] ?_
      refine (VFz.mk fun x _ M3 hM hx => ?_)
      refine (VFact.mk (hp.le.trans hM) ?_)
      refine J _ _ [0, 1, 2, 3, 4, 5, 6, 7, 8, 9, 10, 11, 12, 13, 14, 16, 17, 18] _ (hSt true true true true true false true true true { s with M := M3, x3 := x } m f) rfl (Wk.mk' (id) (by repeat' constructor) (by repeat' constructor) (injOK_id _) rfl rfl rfl) ?_
      intro m2
      exact n111110111 _ m2 _ (hp.sb3 hM hx)
    have n111010111 : ∀ (s : HD) (m f : Mem), HP true true true false true false M2 s → T 5 [0, 1, 2, 3, 4, 5, 6, 7, 8, 10, 11, 12, 13, 14, 16, 17, 18] (hSt true true true false true false true true true s m f) := by
      clear n111111110 n111111101 n111111011 n111111100 n111111010 n111111001 n111110110 n111110101 n111110011 n111100111
      intro s m f hp
      refine H _ _ _ ?_
      refine (VOwn.frz ?_)
      refine (VFn.mk _ (row_fn 5 s.x2 [spA, spA, spC, (0, 300)] s.M (hp.p2 rfl) (i64_of (by decide)) (by decide) (by decide)) ?_)
      rintro rs M3 hM ⟨y, rfl, _, hy⟩
      obtain ⟨a, k, rfl⟩ := hy.shape
      refine (VFact.mk (hp.le.trans hM) ?_)
      refine J _ _ [0, 1, 2, 3, 4, 5, 6, 7, 8, 9, 10, 11, 12, 13, 14, 16, 17, 18] _ (hSt true true true true true false true true true { s with M := M3, a2 := a, k2 := k } m f) rfl (Wk.mk' (id) (by repeat' constructor) (by repeat' constructor) (injOK_id _) rfl rfl rfl) ?_
      intro m2
      exact n111110111 _ m2 _ (hp.sc2 hM hy)
    clear n111111110 n111111101 n111111011 n111110111
    have n111111000 : ∀ (s : HD) (m f : Mem), HP true true true true true true M2 s → T 6 [0, 1, 2, 3, 4, 5, 6, 7, 8, 9, 10, 11, 12, 13, 14, 15] (hSt true true true true true true false false false s m f) := by
      clear n111110110 n111110101 n111110011 n111100111 n111010111
      intro s m f hp
      refine H _ _ _ ?_
      refine VBoth.mk ?_ ?_
      · refine (VFact.mk hp.le ?_)
        refine J _ _ [0, 1, 2, 3, 4, 5, 6, 7, 8, 9, 10, 11, 12, 13, 14, 15, 16] _ (hSt true true true true true true true false false s m f) rfl (Wk.mk' (fun i => if i = 93 then 100 else i) (by repeat' constructor) (by repeat' constructor) (by simp [injOK, hSt, hOw, ifc]) rfl rfl rfl) ?_
        intro m2
        exact n111111100 _ m2 _ hp
      · refine VBoth.mk ?_ ?_
        · refine (VFact.mk hp.le ?_)
          refine J _ _ [0, 1, 2, 3, 4, 5, 6, 7, 8, 9, 10, 11, 12, 13, 14, 15, 17] _ (hSt true true true true true true false true false s m f) rfl (Wk.mk' (fun i => if i = 94 then 100 else i) (by repeat' constructor) (by repeat' constructor) (by simp [injOK, hSt, hOw, ifc]) rfl rfl rfl) ?_
          intro m2
          exact n111111010 _ m2 _ hp
        · refine (VFact.mk hp.le ?_)
          refine J _ _ [0, 1, 2, 3, 4, 5, 6, 7, 8, 9, 10, 11, 12, 13, 14, 15, 18] _ (hSt true true true true true true false false true s m f) rfl (Wk.mk' (fun i => if i = 95 then 100 else i) (by repeat' constructor) (by repeat' constructor) (by simp [injOK, hSt, hOw, ifc]) rfl rfl rfl) ?_
          intro m2
          exact n111111001 _ m2 _ hp
    have n111110100 : ∀ (s : HD) (m f : Mem), HP true true true true true false M2 s → T 6 [0, 1, 2, 3, 4, 5, 6, 7, 8, 9, 10, 11, 12, 13, 14, 16] (hSt true true true true true false true false false s m f) := by
      clear n111111010 n111111001 n111110011 n111100111 n111010111 n111111000
      intro s m f hp
      refine H _ _ _ ?_
      refine VBoth.mk ?_ ?_
      · refine (VOwn.own ?_)
        refine (VCall.nw (row_fn 5 s.x3 [spA, spA, spA, spC] s.M (hp.p3 rfl) (i64_of (by decide)) (by decide) (by decide)) rfl ?_)
        rintro rs M3 hM ⟨y, rfl, hnw, hy⟩
        obtain ⟨B, cp, arr, Et, rfl, q1, q2, q3, q4, q5, q6⟩ := hnw
        refine ⟨B, _, q1, q2, ?_⟩
        refine (VFact.mk (hp.le.trans hM) ?_)
        refine J _ _ [0, 1, 2, 3, 4, 5, 6, 7, 8, 9, 10, 11, 12, 13, 14, 15, 16] _ (hSt true true true true true true true false false { s with M := M3, Mp := s.M, B := B, cp := cp, arr := arr, Et := Et } m f) rfl (Wk.mk' (fun i => if i = 99 then 100 else i) (by repeat' constructor) (by repeat' constructor) (by simp [injOK, hSt, hOw, ifc]) rfl rfl rfl) ?_
        intro m2
        exact n111111100 _ m2 _ (hp.sc3 hM q1 q2 q3 q4 q5 q6 hy)
      · refine VBoth.mk ?_ ?_
        · refine (VFact.mk hp.le ?_)
          refine J _ _ [0, 1, 2, 3, 4, 5, 6, 7, 8, 9, 10, 11, 12, 13, 14, 16, 17] _ (hSt true true true true true false true true false s m f) rfl (Wk.mk' (fun i => if i = 94 then 100 else i) (by repeat' constructor) (by repeat' constructor) (by simp [injOK, hSt, hOw, ifc]) rfl rfl rfl) ?_
          intro m2
          exact n111110110 _ m2 _ hp
        · refine (VFact.mk hp.le ?_)
          refine J _ _ [0, 1, 2, 3, 4, 5, 6, 7, 8, 9, 10, 11, 12, 13, 14, 16, 18] _ (hSt true true true true true false true false true s m f) rfl (Wk.mk' (fun i => if i = 95 then 100 else i) (by repeat' constructor) (by repeat' constructor) (by simp [injOK, hSt, hOw, ifc]) rfl rfl rfl) ?_
          intro m2
          exact n111110101 _ m2 _ hp
    have n111110010 : ∀ (s : HD) (m f : Mem), HP true true true true true false M2 s → T 6 [0, 1, 2, 3, 4, 5, 6, 7, 8, 9, 10, 11, 12, 13, 14, 17] (hSt true true true true true false false true false s m f) := by
      clear n111111100 n111111001 n111110101 n111100111 n111010111 n111111000 n111110100
      intro s m f hp
      refine H _ _ _ ?_
      refine VBoth.mk ?_ ?_
      · refine (VOwn.own ?_)
        refine (VCall.nw (row_fn 5 s.x3 [spA, spA, spA, spC] s.M (hp.p3 rfl) (i64_of (by decide)) (by decide) (by decide)) rfl ?_)
        rintro rs M3 hM ⟨y, rfl, hnw, hy⟩
        obtain ⟨B, cp, arr, Et, rfl, q1, q2, q3, q4, q5, q6⟩ := hnw
        refine ⟨B, _, q1, q2, ?_⟩
        refine (VFact.mk (hp.le.trans hM) ?_)
        refine J _ _ [0, 1, 2, 3, 4, 5, 6, 7, 8, 9, 10, 11, 12, 13, 14, 15, 17] _ (hSt true true true true true true false true false { s with M := M3, Mp := s.M, B := B, cp := cp, arr := arr, Et := Et } m f) rfl (Wk.mk' (fun i => if i = 99 then 100 else i) (by repeat' constructor) (by repeat' constructor) (by simp [injOK, hSt, hOw, ifc]) rfl rfl rfl) ?_
        intro m2
        exact n111111010 _ m2 _ (hp.sc3 hM q1 q2 q3 q4 q5 q6 hy)
      · refine VBoth.mk ?_ ?_
        · refine (VFact.mk hp.le ?_)
          refine J _ _ [0, 1, 2, 3, 4, 5, 6, 7, 8, 9, 10, 11, 12, 13, 14, 16, 17] _ (hSt true true true true true false true true false s m f) rfl (Wk.mk' (fun i => if i = 93 then 100 else i) (by repeat' constructor) (by repeat' constructor) (by simp [injOK, hSt, hOw, ifc]) rfl rfl rfl) ?_
          intro m2
          exact n111110110 _ m2 _ hp
        · refine (VFact.mk hp.le ?_)
          refine J _ _ [0, 1, 2, 3, 4, 5, 6, 7, 8, 9, 10, 11, 12, 13, 14, 17, 18] _ (hSt true true true true true false false true true s m f) rfl (Wk.mk' (fun i => if i = 95 then 100 else i) (by repeat' constructor) (by repeat' constructor) (by simp [injOK, hSt, hOw, ifc]) rfl rfl rfl) ?_
          intro m2
          exact n111110011 _ m2 _ hp
    have n111110001 : ∀ (s : HD) (m f : Mem), HP true true true true true false M2 s → T 6 [0, 1, 2, 3, 4, 5, 6, 7, 8, 9, 10, 11, 12, 13, 14, 18] (hSt true true true true true false false false true s m f) := by
      clear n111111100 n111111010 n111110110 n111100111 n111010111 n111111000 n111110100 n111110010
      intro s m f hp
      refine H _ _ _ ?_
      refine VBoth.mk ?_ ?_
      · refine (VOwn.own ?_)
        refine (VCall.nw (row_fn 5 s.x3 [spA, spA, spA, spC] s.M (hp.p3 rfl) (i64_of (by decide)) (by decide) (by decide)) rfl ?_)
        rintro rs M3 hM ⟨y, rfl, hnw, hy⟩
        obtain ⟨B, cp, arr, Et, rfl, q1, q2, q3, q4, q5, q6⟩ := hnw
        refine ⟨B, _, q1, q2, ?_⟩
        refine (VFact.mk (hp.le.trans hM) ?_)
        refine J _ _ [0, 1, 2, 3, 4, 5, 6, 7, 8, 9, 10, 11, 12, 13, 14, 15, 18] _ (hSt true true true true true true false false true { s with M := M3, Mp := s.M, B := B, cp := cp, arr := arr, Et := Et } m f) rfl (Wk.mk' (fun i => if i = 99 then 100 else i) (by repeat' constructor) (by repeat' constructor) (by simp [injOK, hSt, hOw, ifc]) rfl rfl rfl) ?_
        intro m2
        exact n111111001 _ m2 _ (hp.sc3 hM q1 q2 q3 q4 q5 q6 hy)
      · refine VBoth.mk ?_ ?_
        · refine (VFact.mk hp.le ?_)
          refine J _ _ [0, 1, 2, 3, 4, 5, 6, 7, 8, 9, 10, 11, 12, 13, 14, 16, 18] _ (hSt true true true true true false true false true s m f) rfl (Wk.mk' (fun i => if i = 93 then 100 else i) (by repeat' constructor) (by repeat' constructor) (by simp [injOK, hSt, hOw, ifc]) rfl rfl rfl) ?_
          intro m2
          exact n111110101 _ m2 _ hp
        · refine (VFact.mk hp.le ?_)
          refine J _ _ [0, 1, 2, 3, 4, 5, 6, 7, 8, 9, 10, 11, 12, 13, 14, 17, 18] _ (hSt true true true true true false false true true s m f) rfl (Wk.mk' (fun i => if i = 94 then 100 else i) (by repeat' constructor) (by repeat' constructor) (by simp [injOK, hSt, hOw, ifc]) rfl rfl rfl) ?_
          intro m2
          exact n111110011 _ m2 _ hp
    have n111100110 : ∀ (s : HD) (m f : Mem), HP true true true true false false M2 s → T 6 [0, 1, 2, 3, 4, 5, 6, 7, 8, 9, 10, 11, 12, 13, 16, 17] (hSt true true true true false false true true false s m f) := by
      clear n111111100 n111111010 n111111001 n111110101 n111110011 n111010111 n111111000 n111110100 n111110010 n111110001
      intro s m f hp
      refine H _ _ _ ?_
      refine VBoth.mk ?_ ?_
      · refine (VFact.mk hp.le ?_)
        refine Z _ _ _ [37] ?_
        refine (VFz.mk fun x _ M3 hM hx => ?_)
        refine (VFact.mk (hp.le.trans hM) ?_)
        refine J _ _ [0, 1, 2, 3, 4, 5, 6, 7, 8, 9, 10, 11, 12, 13, 14, 16, 17] _ (hSt true true true true true false true true false { s with M := M3, x3 := x } m f) rfl (Wk.mk' (id) (by repeat' constructor) (by repeat' constructor) (injOK_id _) rfl rfl rfl) ?_
        intro m2
        exact n111110110 _ m2 _ (hp.sb3 hM hx)
      · refine (VFact.mk hp.le ?_)
        refine J _ _ [0, 1, 2, 3, 4, 5, 6, 7, 8, 9, 10, 11, 12, 13, 16, 17, 18] _ (hSt true true true true false false true true true s m f) rfl (Wk.mk' (fun i => if i = 95 then 100 else i) (by repeat' constructor) (by repeat' constructor) (by simp [injOK, hSt, hOw, ifc]) rfl rfl rfl) ?_
        intro m2
        exact n111100111 _ m2 _ hp
    have n111100101 : ∀ (s : HD) (m f : Mem), HP true true true true false false M2 s → T 6 [0, 1, 2, 3, 4, 5, 6, 7, 8, 9, 10, 11, 12, 13, 16, 18] (hSt true true true true false false true false true s m f) := by
      clear n111111100 n111111010 n111111001 n111110110 n111110011 n111010111 n111111000 n111110100 n111110010 n111110001 n111100110
      intro s m f hp
      refine H _ _ _ ?_
      refine VBoth.mk ?_ ?_
      · refine (VFact.mk hp.le ?_)
        refine Z _ _ _ [37] ?_
        refine (VFz.mk fun x _ M3 hM hx => ?_)
        refine (VFact.mk (hp.le.trans hM) ?_)
        refine J _ _ [0, 1, 2, 3, 4, 5, 6, 7, 8, 9, 10, 11, 12, 13, 14, 16, 18] _ (hSt true true true true true false true false true { s with M := M3, x3 := x } m f) rfl (Wk.mk' (id) (by repeat' constructor) (by repeat' constructor) (injOK_id _) rfl rfl rfl) ?_
        intro m2
        exact n111110101 _ m2 _ (hp.sb3 hM hx)
      · refine (VFact.mk hp.le ?_)
        refine J _ _ [0, 1, 2, 3, 4, 5, 6, 7, 8, 9, 10, 11, 12, 13, 16, 17, 18] _ (hSt true true true true false false true true true s m f) rfl (Wk.mk' (fun i => if i = 94 then 100 else i) (by repeat' constructor) (by repeat' constructor) (by simp [injOK, hSt, hOw, ifc]) rfl rfl rfl) ?_
        intro m2
        exact n111100111 _ m2 _ hp
    have n111100011 : ∀ (s : HD) (m f : Mem), HP true true true true false false M2 s → T 6 [0, 1, 2, 3, 4, 5, 6, 7, 8, 9, 10, 11, 12, 13, 17, 18] (hSt true true true true false false false true true s m f) := by
      clear n111111100 n111111010 n111111001 n111110110 n111110101 n111010111 n111111000 n111110100 n111110010 n111110001 n111100110 n111100101
      intro s m f hp
      refine H _ _ _ ?_
      refine VBoth.mk ?_ ?_
      · refine (VFact.mk hp.le ?_)
        refine Z _ _ _ [37] ?_
        refine (VFz.mk fun x _ M3 hM hx => ?_)
        refine (VFact.mk (hp.le.trans hM) ?_)
        refine J _ _ [0, 1, 2, 3, 4, 5, 6, 7, 8, 9, 10, 11, 12, 13, 14, 17, 18] _ (hSt true true true true true false false true true { s with M := M3, x3 := x } m f) rfl (Wk.mk' (id) (by repeat' constructor) (by repeat' constructor) (injOK_id _) rfl rfl rfl) ?_
        intro m2
        exact n111110011 _ m2 _ (hp.sb3 hM hx)
      · refine (VFact.mk hp.le ?_)
        refine J _ _ [0, 1, 2, 3, 4, 5, 6, 7, 8, 9, 10, 11, 12, 13, 16, 17, 18] _ (hSt true true true true false false true true true s m f) rfl (Wk.mk' (fun i => if i = 93 then 100 else i) (by repeat' constructor) (by repeat' constructor) (by simp [injOK, hSt, hOw, ifc]) rfl rfl rfl) ?_
        intro m2
        exact n111100111 _ m2 _ hp
    have n111010110 : ∀ (s : HD) (m f : Mem), HP true true true false true false M2 s → T 6 [0, 1, 2, 3, 4, 5, 6, 7, 8, 10, 11, 12, 13, 14, 16, 17] (hSt true true true false true false true true false s m f) := by
      clear n111111100 n111111010 n111111001 n111110101 n111110011 n111100111 n111111000 n111110100 n111110010 n111110001 n111100110 n111100101 n111100011
      intro s m f hp
      refine H _ _ _ ?_
      refine VBoth.mk ?_ ?_
      · refine (VOwn.frz ?_)
        refine (VFn.mk _ (row_fn 5 s.x2 [spA, spA, spC, (0, 300)] s.M (hp.p2 rfl) (i64_of (by decide)) (by decide) (by decide)) ?_)
        rintro rs M3 hM ⟨y, rfl, _, hy⟩
        obtain ⟨a, k, rfl⟩ := hy.shape
        refine (VFact.mk (hp.le.trans hM) ?_)
        refine J _ _ [0, 1, 2, 3, 4, 5, 6, 7, 8, 9, 10, 11, 12, 13, 14, 16, 17] _ (hSt true true true true true false true true false { s with M := M3, a2 := a, k2 := k } m f) rfl (Wk.mk' (id) (by repeat' constructor) (by repeat' constructor) (injOK_id _) rfl rfl rfl) ?_
        intro m2
        exact n111110110 _ m2 _ (hp.sc2 hM hy)
      · refine (VFact.mk hp.le ?_)
        refine J _ _ [0, 1, 2, 3, 4, 5, 6, 7, 8, 10, 11, 12, 13, 14, 16, 17, 18] _ (hSt true true true false true false true true true s m f) rfl (Wk.mk' (fun i => if i = 95 then 100 else i) (by repeat' constructor) (by repeat' constructor) (by simp [injOK, hSt, hOw, ifc]) rfl rfl rfl) ?_
        intro m2
        exact n111010111 _ m2 _ hp
    have n111010101 : ∀ (s : HD) (m f : Mem), HP true true true false true false M2 s → T 6 [0, 1, 2, 3, 4, 5, 6, 7, 8, 10, 11, 12, 13, 14, 16, 18] (hSt true true true false true false true false true s m f) := by
      clear n111111100 n111111010 n111111001 n111110110 n111110011 n111100111 n111111000 n111110100 n111110010 n111110001 n111100110 n111100101 n111100011 n111010110
      intro s m f hp
      refine H _ _ _ ?_
      refine VBoth.mk ?_ ?_
      · refine (VOwn.frz ?_)
        refine (VFn.mk _ (row_fn 5 s.x2 [spA, spA, spC, (0, 300)] s.M (hp.p2 rfl) (i64_of (by decide)) (by decide) (by decide)) ?_)
        rintro rs M3 hM ⟨y, rfl, _, hy⟩
        obtain ⟨a, k, rfl⟩ := hy.shape
        refine (VFact.mk (hp.le.trans hM) ?_)
        refine J _ _ [0, 1, 2, 3, 4, 5, 6, 7, 8, 9, 10, 11, 12, 13, 14, 16, 18] _ (hSt true true true true true false true false true { s with M := M3, a2 := a, k2 := k } m f) rfl (Wk.mk' (id) (by repeat' constructor) (by repeat' constructor) (injOK_id _) rfl rfl rfl) ?_
        intro m2
        exact n111110101 _ m2 _ (hp.sc2 hM hy)
      · refine (VFact.mk hp.le ?_)
        refine J _ _ [0, 1, 2, 3, 4, 5, 6, 7, 8, 10, 11, 12, 13, 14, 16, 17, 18] _ (hSt true true true false true false true true true s m f) rfl (Wk.mk' (fun i => if i = 94 then 100 else i) (by repeat' constructor) (by repeat' constructor) (by simp [injOK, hSt, hOw, ifc]) rfl rfl rfl) ?_
        intro m2
        exact n111010111 _ m2 _ hp
    have n111010011 : ∀ (s : HD) (m f : Mem), HP true true true false true false M2 s → T 6 [0, 1, 2, 3, 4, 5, 6, 7, 8, 10, 11, 12, 13, 14, 17, 18] (hSt true true true false true false false true true s m f) := by
      clear n111111100 n111111010 n111111001 n111110110 n111110101 n111100111 n111111000 n111110100 n111110010 n111110001 n111100110 n111100101 n111100011 n111010110 n111010101
      intro s m f hp
      refine H _ _ _ ?_
      refine VBoth.mk ?_ ?_
      · refine (VOwn.frz ?_)
        refine (VFn.mk _ (row_fn 5 s.x2 [spA, spA, spC, (0, 300)] s.M (hp.p2 rfl) (i64_of (by decide)) (by decide) (by decide)) ?_)
        rintro rs M3 hM ⟨y, rfl, _, hy⟩
        obtain ⟨a, k, rfl⟩ := hy.shape
        refine (VFact.mk (hp.le.trans hM) ?_)
        refine J _ _ [0, 1, 2, 3, 4, 5, 6, 7, 8, 9, 10, 11, 12, 13, 14, 17, 18] _ (hSt true true true true true false false true true { s with M := M3, a2 := a, k2 := k } m f) rfl (Wk.mk' (id) (by repeat' constructor) (by repeat' constructor) (injOK_id _) rfl rfl rfl) ?_
        intro m2
        exact n111110011 _ m2 _ (hp.sc2 hM hy)
      · refine (VFact.mk hp.le ?_)
        refine J _ _ [0, 1, 2, 3, 4, 5, 6, 7, 8, 10, 11, 12, 13, 14, 16, 17, 18] _ (hSt true true true false true false true true true s m f) rfl (Wk.mk' (fun i => if i = 93 then 100 else i) (by repeat' constructor) (by repeat' constructor) (by simp [injOK, hSt, hOw, ifc]) rfl rfl rfl) ?_
        intro m2
        exact n111010111 _ m2 _ hp
    have n111000111 : ∀ (s : HD) (m f : Mem), HP true true true false false false M2 s → T 6 [0, 1, 2, 3, 4, 5, 6, 7, 8, 10, 11, 12, 13, 16, 17, 18] (hSt true true true false false false true true true s m f) := by
      clear n111111100 n111111010 n111111001 n111110110 n111110101 n111110011 n111111000 n111110100 n111110010 n111110001 n111100110 n111100101 n111100011 n111010110 n111010101 n111010011
      intro s m f hp
      refine H _ _ _ ?_
      refine VBoth.mk ?_ ?_
      · refine (VOwn.frz ?_)
        refine (VFn.mk _ (row_fn 5 s.x2 [spA, spA, spC, (0, 300)] s.M (hp.p2 rfl) (i64_of (by decide)) (by decide) (by decide)) ?_)
        rintro rs M3 hM ⟨y, rfl, _, hy⟩
        obtain ⟨a, k, rfl⟩ := hy.shape
        refine (VFact.mk (hp.le.trans hM) ?_)
        refine J _ _ [0, 1, 2, 3, 4, 5, 6, 7, 8, 9, 10, 11, 12, 13, 16, 17, 18] _ (hSt true true true true false false true true true { s with M := M3, a2 := a, k2 := k } m f) rfl (Wk.mk' (id) (by repeat' constructor) (by repeat' constructor) (injOK_id _) rfl rfl rfl) ?_
        intro m2
        exact n111100111 _ m2 _ (hp.sc2 hM hy)
      · refine (VFact.mk hp.le ?_)
        refine Z _ _ _ [37] ?_
        refine (VFz.mk fun x _ M3 hM hx => ?_)
        refine (VFact.mk (hp.le.trans hM) ?_)
        refine J _ _ [0, 1, 2, 3, 4, 5, 6, 7, 8, 10, 11, 12, 13, 14, 16, 17, 18] _ (hSt true true true false true false true true true { s with M := M3, x3 := x } m f) rfl (Wk.mk' (id) (by repeat' constructor) (by repeat' constructor) (injOK_id _) rfl rfl rfl) ?_
        intro m2
        exact n111010111 _ m2 _ (hp.sb3 hM hx)
    have n110010111 : ∀ (s : HD) (m f : Mem), HP true true false false true false M2 s → T 6 [0, 1, 2, 3, 4, 5, 6, 7, 10, 11, 12, 13, 14, 16, 17, 18] (hSt true true false false true false true true true s m f) := by
      clear n111111100 n111111010 n111111001 n111110110 n111110101 n111110011 n111100111 n111111000 n111110100 n111110010 n111110001 n111100110 n111100101 n111100011 n111010110 n111010101 n111010011 n111000111
      intro s m f hp
      refine H _ _ _ ?_
      refine (VFact.mk hp.le ?_)
      refine Z _ _ _ [31] ?_
      refine (VFz.mk fun x _ M3 hM hx => ?_)
      refine (VFact.mk (hp.le.trans hM) ?_)
      refine J _ _ [0, 1, 2, 3, 4, 5, 6, 7, 8, 10, 11, 12, 13, 14, 16, 17, 18] _ (hSt true true true false true false true true true { s with M := M3, x2 := x } m f) rfl (Wk.mk' (id) (by repeat' constructor) (by repeat' constructor) (injOK_id _) rfl rfl rfl) ?_
      intro m2
      exact n111010111 _ m2 _ (hp.sb2 hM hx)
    have n101010111 : ∀ (s : HD) (m f : Mem), HP true false true false true false M2 s → T 6 [0, 1, 2, 4, 5, 6, 7, 8, 10, 11, 12, 13, 14, 16, 17, 18] (hSt true false true false true false true true true s m f) := by
      clear n111111100 n111111010 n111111001 n111110110 n111110101 n111110011 n111100111 n111111000 n111110100 n111110010 n111110001 n111100110 n111100101 n111100011 n111010110 n111010101 n111010011 n111000111 n110010111
      intro s m f hp
      refine H _ _ _ ?_
      refine (VOwn.frz ?_)
      refine (VFn.mk _ (row_fn 10 s.x1 [spA, spC] s.M (hp.p1 rfl) (i64_of (by decide)) (by decide) (by decide)) ?_)
      rintro rs M3 hM ⟨y, rfl, _, hy⟩
      obtain ⟨a, k, rfl⟩ := hy.shape
      refine (VFact.mk (hp.le.trans hM) ?_)
      refine J _ _ [0, 1, 2, 3, 4, 5, 6, 7, 8, 10, 11, 12, 13, 14, 16, 17, 18] _ (hSt true true true false true false true true true { s with M := M3, a1 := a, k1 := k } m f) rfl (Wk.mk' (id) (by repeat' constructor) (by repeat' constructor) (injOK_id _) rfl rfl rfl) ?_
      intro m2
      exact n111010111 _ m2 _ (hp.sc1 hM hy)
    clear n111111100 n111111010 n111111001 n111110110 n111110101 n111110011 n111100111 n111010111
    have n111110000 : ∀ (s : HD) (m f : Mem), HP true true true true true false M2 s → T 7 [0, 1, 2, 3, 4, 5, 6, 7, 8, 9, 10, 11, 12, 13, 14] (hSt true true true true true false false false false s m f) := by
      clear n111100110 n111100101 n111100011 n111010110 n111010101 n111010011 n111000111 n110010111 n101010111
      intro s m f hp
      refine H _ _ _ ?_
      refine VBoth.mk ?_ ?_
      · refine (VOwn.own ?_)
        refine (VCall.nw (row_fn 5 s.x3 [spA, spA, spA, spC] s.M (hp.p3 rfl) (i64_of (by decide)) (by decide) (by decide)) rfl ?_)
        rintro rs M3 hM ⟨y, rfl, hnw, hy⟩
        obtain ⟨B, cp, arr, Et, rfl, q1, q2, q3, q4, q5, q6⟩ := hnw
        refine ⟨B, _, q1, q2, ?_⟩
        refine (VFact.mk (hp.le.trans hM) ?_)
        refine J _ _ [0, 1, 2, 3, 4, 5, 6, 7, 8, 9, 10, 11, 12, 13, 14, 15] _ (hSt true true true true true true false false false { s with M := M3, Mp := s.M, B := B, cp := cp, arr := arr, Et := Et } m f) rfl (Wk.mk' (fun i => if i = 99 then 100 else i) (by repeat' constructor) (by repeat' constructor) (by simp [injOK, hSt, hOw, ifc]) rfl rfl rfl) ?_
        intro m2
        exact n111111000 _ m2 _ (hp.sc3 hM q1 q2 q3 q4 q5 q6 hy)
      · refine VBoth.mk ?_ ?_
        · refine (VFact.mk hp.le ?_)
          refine J _ _ [0, 1, 2, 3, 4, 5, 6, 7, 8, 9, 10, 11, 12, 13, 14, 16] _ (hSt true true true true true false true false false s m f) rfl (Wk.mk' (fun i => if i = 93 then 100 else i) (by repeat' constructor) (by repeat' constructor) (by simp [injOK, hSt, hOw, ifc]) rfl rfl rfl) ?_
          intro m2
          exact n111110100 _ m2 _ hp
        · refine VBoth.mk ?_ ?_
          · refine (VFact.mk hp.le ?_)
            refine J _ _ [0, 1, 2, 3, 4, 5, 6, 7, 8, 9, 10, 11, 12, 13, 14, 17] _ (hSt true true true true true false false true false s m f) rfl (Wk.mk' (fun i => if i = 94 then 100 else i) (by repeat' constructor) (by repeat' constructor) (by simp [injOK, hSt, hOw, ifc]) rfl rfl rfl) ?_
            intro m2
            exact n111110010 _ m2 _ hp
          · refine (VFact.mk hp.le ?_)
            refine J _ _ [0, 1, 2, 3, 4, 5, 6, 7, 8, 9, 10, 11, 12, 13, 14, 18] _ (hSt true true true true true false false false true s m f) rfl (Wk.mk' (fun i => if i = 95 then 100 else i) (by repeat' constructor) (by repeat' constructor) (by simp [injOK, hSt, hOw, ifc]) rfl rfl rfl) ?_
            intro m2
            exact n111110001 _ m2 _ hp
    have n111100100 : ∀ (s : HD) (m f : Mem), HP true true true true false false M2 s → T 7 [0, 1, 2, 3, 4, 5, 6, 7, 8, 9, 10, 11, 12, 13, 16] (hSt true true true true false false true false false s m f) := by
      clear n111111000 n111110010 n111110001 n111100011 n111010110 n111010101 n111010011 n111000111 n110010111 n101010111 n111110000
      intro s m f hp
      refine H _ _ _ ?_
      refine VBoth.mk ?_ ?_
      · refine (VFact.mk hp.le ?_)
        refine Z _ _ _ [37] ?_
        refine (VFz.mk fun x _ M3 hM hx => ?_)
        refine (VFact.mk (hp.le.trans hM) ?_)
        refine J _ _ [0, 1, 2, 3, 4, 5, 6, 7, 8, 9, 10, 11, 12, 13, 14, 16] _ (hSt true true true true true false true false false { s with M := M3, x3 := x } m f) rfl (Wk.mk' (id) (by repeat' constructor) (by repeat' constructor) (injOK_id _) rfl rfl rfl) ?_
        intro m2
        exact n111110100 _ m2 _ (hp.sb3 hM hx)
      · refine VBoth.mk ?_ ?_
        · refine (VFact.mk hp.le ?_)
          refine J _ _ [0, 1, 2, 3, 4, 5, 6, 7, 8, 9, 10, 11, 12, 13, 16, 17] _ (hSt true true true true false false true true false s m f) rfl (Wk.mk' (fun i => if i = 94 then 100 else i) (by repeat' constructor) (by repeat' constructor) (by simp [injOK, hSt, hOw, ifc]) rfl rfl rfl) ?_
          intro m2
          exact n111100110 _ m2 _ hp
        · refine (VFact.mk hp.le ?_)
          refine J _ _ [0, 1, 2, 3, 4, 5, 6, 7, 8, 9, 10, 11, 12, 13, 16, 18] _ (hSt true true true true false false true false true s m f) rfl (Wk.mk' (fun i => if i = 95 then 100 else i) (by repeat' constructor) (by repeat' constructor) (by simp [injOK, hSt, hOw, ifc]) rfl rfl rfl) ?_
          intro m2
          exact n111100101 _ m2 _ hp
    have n111100010 : ∀ (s : HD) (m f : Mem), HP true true true true false false M2 s → T 7 [0, 1, 2, 3, 4, 5, 6, 7, 8, 9, 10, 11, 12, 13, 17] (hSt true true true true false false false true false s m f) := by
      clear n111111000 n111110100 n111110001 n111100101 n111010110 n111010101 n111010011 n111000111 n110010111 n101010111 n111110000 n111100100
      intro s m f hp
      refine H _ _ _ ?_
      refine VBoth.mk ?_ ?_
      · refine (VFact.mk hp.le ?_)
        refine Z _ _ _ [37] ?_
        refine (VFz.mk fun x _ M3 hM hx => ?_)
        refine (VFact.mk (hp.le.trans hM) ?_)
        refine J _ _ [0, 1, 2, 3, 4, 5, 6, 7, 8, 9, 10, 11, 12, 13, 14, 17] _ (hSt true true true true true false false true false { s with M := M3, x3 := x } m f) rfl (Wk.mk' (id) (by repeat' constructor) (by repeat' constructor) (injOK_id _) rfl rfl rfl) ?_
        intro m2
        exact n111110010 _ m2 _ (hp.sb3 hM hx)
      · refine VBoth.mk ?_ ?_
        · refine (VFact.mk hp.le ?_)
          refine J _ _ [0, 1, 2, 3, 4, 5, 6, 7, 8, 9, 10, 11, 12, 13, 16, 17] _ (hSt true true true true false false true true false s m f) rfl (Wk.mk' (fun i => if i = 93 then 100 else i) (by repeat' constructor) (by repeat' constructor) (by simp [injOK, hSt, hOw, ifc]) rfl rfl rfl) ?_
          intro m2
          exact n111100110 _ m2 _ hp
        · refine (VFact.mk hp.le ?_)
          refine J _ _ [0, 1, 2, 3, 4, 5, 6, 7, 8, 9, 10, 11, 12, 13, 17, 18] _ (hSt true true true true false false false true true s m f) rfl (Wk.mk' (fun i => if i = 95 then 100 else i) (by repeat' constructor) (by repeat' constructor) (by simp [injOK, hSt, hOw, ifc]) rfl rfl rfl) ?_
          intro m2
          exact n111100011 _ m2 _ hp
    have n111100001 : ∀ (s : HD) (m f : Mem), HP true true true true false false M2 s → T 7 [0, 1, 2, 3, 4, 5, 6, 7, 8, 9, 10, 11, 12, 13, 18] (hSt true true true true false false false false true s m f) := by
      clear n111111000 n111110100 n111110010 n111100110 n111010110 n111010101 n111010011 n111000111 n110010111 n101010111 n111110000 n111100100 n111100010
      intro s m f hp
      refine H _ _ _ ?_
      refine VBoth.mk ?_ ?_
      · refine (VFact.mk hp.le ?_)
        refine Z _ _ _ [37] ?_
        refine (VFz.mk fun x _ M3 hM hx => ?_)
        refine (VFact.mk (hp.le.trans hM) ?_)
        refine J _ _ [0, 1, 2, 3, 4, 5, 6, 7, 8, 9, 10, 11, 12, 13, 14, 18] _ (hSt true true true true true false false false true { s with M := M3, x3 := x } m f) rfl (Wk.mk' (id) (by repeat' constructor) (by repeat' constructor) (injOK_id _) rfl rfl rfl) ?_
        intro m2
        exact n111110001 _ m2 _ (hp.sb3 hM hx)
      · refine VBoth.mk ?_ ?_
        · refine (VFact.mk hp.le ?_)
          refine J _ _ [0, 1, 2, 3, 4, 5, 6, 7, 8, 9, 10, 11, 12, 13, 16, 18] _ (hSt true true true true false false true false true s m f) rfl (Wk.mk' (fun i => if i = 93 then 100 else i) (by repeat' constructor) (by repeat' constructor) (by simp [injOK, hSt, hOw, ifc]) rfl rfl rfl) ?_
          intro m2
          exact n111100101 _ m2 _ hp
        · refine (VFact.mk hp.le ?_)
          refine J _ _ [0, 1, 2, 3, 4, 5, 6, 7, 8, 9, 10, 11, 12, 13, 17, 18] _ (hSt true true true true false false false true true s m f) rfl (Wk.mk' (fun i => if i = 94 then 100 else i) (by repeat' constructor) (by repeat' constructor) (by simp [injOK, hSt, hOw, ifc]) rfl rfl rfl) ?_
          intro m2
          exact n111100011 _ m2 _ hp
    have n111010100 : ∀ (s : HD) (m f : Mem), HP true true true false true false M2 s → T 7 [0, 1, 2, 3, 4, 5, 6, 7, 8, 10, 11, 12, 13, 14, 16] (hSt true true true false true false true false false s m f) := by
      clear n111111000 n111110010 n111110001 n111100110 n111100101 n111100011 n111010011 n111000111 n110010111 n101010111 n111110000 n111100100 n111100010 n111100001
      intro s m f hp
      refine H _ _ _ ?_
      refine VBoth.mk ?_ ?_
      · refine (VOwn.frz ?_)
        refine (VFn.mk _ (row_fn 5 s.x2 [spA, spA, spC, (0, 300)] s.M (hp.p2 rfl) (i64_of (by decide)) (by decide) (by decide)) ?_)
        rintro rs M3 hM ⟨y, rfl, _, hy⟩
        obtain ⟨a, k, rfl⟩ := hy.shape
        refine (VFact.mk (hp.le.trans hM) ?_)
        refine J _ _ [0, 1, 2, 3, 4, 5, 6, 7, 8, 9, 10, 11, 12, 13, 14, 16] _ (hSt true true true true true false true false false { s with M := M3, a2 := a, k2 := k } m f) rfl (Wk.mk' (id) (by repeat' constructor) (by repeat' constructor) (injOK_id _) rfl rfl rfl) ?_
        intro m2
        exact n111110100 _ m2 _ (hp.sc2 hM hy)
      · refine VBoth.mk ?_ ?_
        · refine (VFact.mk hp.le ?_)
          refine J _ _ [0, 1, 2, 3, 4, 5, 6, 7, 8, 10, 11, 12, 13, 14, 16, 17] _ (hSt true true true false true false true true false s m f) rfl (Wk.mk' (fun i => if i = 94 then 100 else i) (by repeat' constructor) (by repeat' constructor) (by simp [injOK, hSt, hOw, ifc]) rfl rfl rfl) ?_
          intro m2
          exact n111010110 _ m2 _ hp
        · refine (VFact.mk hp.le ?_)
          refine J _ _ [0, 1, 2, 3, 4, 5, 6, 7, 8, 10, 11, 12, 13, 14, 16, 18] _ (hSt true true true false true false true false true s m f) rfl (Wk.mk' (fun i => if i = 95 then 100 else i) (by repeat' constructor) (by repeat' constructor) (by simp [injOK, hSt, hOw, ifc]) rfl rfl rfl) ?_
          intro m2
          exact n111010101 _ m2 _ hp
    have n111010010 : ∀ (s : HD) (m f : Mem), HP true true true false true false M2 s → T 7 [0, 1, 2, 3, 4, 5, 6, 7, 8, 10, 11, 12, 13, 14, 17] (hSt true true true false true false false true false s m f) := by
      clear n111111000 n111110100 n111110001 n111100110 n111100101 n111100011 n111010101 n111000111 n110010111 n101010111 n111110000 n111100100 n111100010 n111100001 n111010100
      intro s m f hp
      refine H _ _ _ ?_
      refine VBoth.mk ?_ ?_
      · refine (VOwn.frz ?_)
        refine (VFn.mk _ (row_fn 5 s.x2 [spA, spA, spC, (0, 300)] s.M (hp.p2 rfl) (i64_of (by decide)) (by decide) (by decide)) ?_)
        rintro rs M3 hM ⟨y, rfl, _, hy⟩
        obtain ⟨a, k, rfl⟩ := hy.shape
        refine (VFact.mk (hp.le.trans hM) ?_)
        refine J _ _ [0, 1, 2, 3, 4, 5, 6, 7, 8, 9, 10, 11, 12, 13, 14, 17] _ (hSt true true true true true false false true false { s with M := M3, a2 := a, k2 := k } m f) rfl (Wk.mk' (id) (by repeat' constructor) (by repeat' constructor) (injOK_id _) rfl rfl rfl) ?_
        intro m2
        exact n111110010 _ m2 _ (hp.sc2 hM hy)
      · refine VBoth.mk ?_ ?_
        · refine (VFact.mk hp.le ?_)
          refine J _ _ [0, 1, 2, 3, 4, 5, 6, 7, 8, 10, 11, 12, 13, 14, 16, 17] _ (hSt true true true false true false true true false s m f) rfl (Wk.mk' (fun i => if i = 93 then 100 else i) (by repeat' constructor) (by repeat' constructor) (by simp [injOK, hSt, hOw, ifc]) rfl rfl rfl) ?_
          intro m2
          exact n111010110 _ m2 _ hp
        · refine (VFact.mk hp.le ?_)
          refine J _ _ [0, 1, 2, 3, 4, 5, 6, 7, 8, 10, 11, 12, 13, 14, 17, 18] _ (hSt true true true false true false false true true s m f) rfl (Wk.mk' (fun i => if i = 95 then 100 else i) (by repeat' constructor) (by repeat' constructor) (by simp [injOK, hSt, hOw, ifc]) rfl rfl rfl) ?_
          intro m2
          exact n111010011 _ m2 _ hp
    have n111010001 : ∀ (s : HD) (m f : Mem), HP true true true false true false M2 s → T 7 [0, 1, 2, 3, 4, 5, 6, 7, 8, 10, 11, 12, 13, 14, 18] (hSt true true true false true false false false true s m f) := by
      clear n111111000 n111110100 n111110010 n111100110 n111100101 n111100011 n111010110 n111000111 n110010111 n101010111 n111110000 n111100100 n111100010 n111100001 n111010100 n111010010
      intro s m f hp
      refine H _ _ _ ?_
      refine VBoth.mk ?_ ?_
      · refine (VOwn.frz ?_)
        refine (VFn.mk _ (row_fn 5 s.x2 [spA, spA, spC, (0, 300)] s.M (hp.p2 rfl) (i64_of (by decide)) (by decide) (by decide)) ?_)
        rintro rs M3 hM ⟨y, rfl, _, hy⟩
        obtain ⟨a, k, rfl⟩ := hy.shape
        refine (VFact.mk (hp.le.trans hM) ?_)
        refine J _ _ [0, 1, 2, 3, 4, 5, 6, 7, 8, 9, 10, 11, 12, 13, 14, 18] _ (hSt true true true true true false false false true { s with M := M3, a2 := a, k2 := k } m f) rfl (Wk.mk' (id) (by repeat' constructor) (by repeat' constructor) (injOK_id _) rfl rfl rfl) ?_
        intro m2
        exact n111110001 _ m2 _ (hp.sc2 hM hy)
      · refine VBoth.mk ?_ ?_
        · refine (VFact.mk hp.le ?_)
          refine J _ _ [0, 1, 2, 3, 4, 5, 6, 7, 8, 10, 11, 12, 13, 14, 16, 18] _ (hSt true true true false true false true false true s m f) rfl (Wk.mk' (fun i => if i = 93 then 100 else i) (by repeat' constructor) (by repeat' constructor) (by simp [injOK, hSt, hOw, ifc]) rfl rfl rfl) ?_
          intro m2
          exact n111010101 _ m2 _ hp
        · refine (VFact.mk hp.le ?_)
          refine J _ _ [0, 1, 2, 3, 4, 5, 6, 7, 8, 10, 11, 12, 13, 14, 17, 18] _ (hSt true true true false true false false true true s m f) rfl (Wk.mk' (fun i => if i = 94 then 100 else i) (by repeat' constructor) (by repeat' constructor) (by simp [injOK, hSt, hOw, ifc]) rfl rfl rfl) ?_
          intro m2
          exact n111010011 _ m2 _ hp
    have n111000110 : ∀ (s : HD) (m f : Mem), HP true true true false false false M2 s → T 7 [0, 1, 2, 3, 4, 5, 6, 7, 8, 10, 11, 12, 13, 16, 17] (hSt true true true false false false true true false s m f) := by
      clear n111111000 n111110100 n111110010 n111110001 n111100101 n111100011 n111010101 n111010011 n110010111 n101010111 n111110000 n111100100 n111100010 n111100001 n111010100 n111010010 n111010001
      intro s m f hp
      refine H _ _ _ ?_
      refine VBoth.mk ?_ ?_
      · refine (VOwn.frz ?_)
        refine (VFn.mk _ (row_fn 5 s.x2 [spA, spA, spC, (0, 300)] s.M (hp.p2 rfl) (i64_of (by decide)) (by decide) (by decide)) ?_)
        rintro rs M3 hM ⟨y, rfl, _, hy⟩
        obtain ⟨a, k, rfl⟩ := hy.shape
        refine (VFact.mk (hp.le.trans hM) ?_)
        refine J _ _ [0, 1, 2, 3, 4, 5, 6, 7, 8, 9, 10, 11, 12, 13, 16, 17] _ (hSt true true true true false false true true false { s with M := M3, a2 := a, k2 := k } m f) rfl (Wk.mk' (id) (by repeat' constructor) (by repeat' constructor) (injOK_id _) rfl rfl rfl) ?_
        intro m2
        exact n111100110 _ m2 _ (hp.sc2 hM hy)
      · refine VBoth.mk ?_ ?_
        · refine (VFact.mk hp.le ?_)
          refine Z _ _ _ [37] ?_
          refine (VFz.mk fun x _ M3 hM hx => ?_)
          refine (VFact.mk (hp.le.trans hM) ?_)
          refine J _ _ [0, 1, 2, 3, 4, 5, 6, 7, 8, 10, 11, 12, 13, 14, 16, 17] _ (hSt true true true false true false true true false { s with M := M3, x3 := x } m f) rfl (Wk.mk' (id) (by repeat' constructor) (by repeat' constructor) (injOK_id _) rfl rfl rfl) ?_
          intro m2
          exact n111010110 _ m2 _ (hp.sb3 hM hx)
        · refine (VFact.mk hp.le ?_)
          refine J _ _ [0, 1, 2, 3, 4, 5, 6, 7, 8, 10, 11, 12, 13, 16, 17, 18] _ (hSt true true true false false false true true true s m f) rfl (Wk.mk' (fun i => if i = 95 then 100 else i) (by repeat' constructor) (by repeat' constructor) (by simp [injOK, hSt, hOw, ifc]) rfl rfl rfl) ?_
          intro m2
          exact n111000111 _ m2 _ hp
    have n111000101 : ∀ (s : HD) (m f : Mem), HP true true true false false false M2 s → T 7 [0, 1, 2, 3, 4, 5, 6, 7, 8, 10, 11, 12, 13, 16, 18] (hSt true true true false false false true false true s m f) := by
      clear n111111000 n111110100 n111110010 n111110001 n111100110 n111100011 n111010110 n111010011 n110010111 n101010111 n111110000 n111100100 n111100010 n111100001 n111010100 n111010010 n111010001 n111000110
      intro s m f hp
      refine H _ _ _ ?_
      refine VBoth.mk ?_ ?_
      · refine (VOwn.frz ?_)
        refine (VFn.mk _ (row_fn 5 s.x2 [spA, spA, spC, (0, 300)] s.M (hp.p2 rfl) (i64_of (by decide)) (by decide) (by decide)) ?_)
        rintro rs M3 hM ⟨y, rfl, _, hy⟩
        obtain ⟨a, k, rfl⟩ := hy.shape
        refine (VFact.mk (hp.le.trans hM) ?_)
        refine J _ _ [0, 1, 2, 3, 4, 5, 6, 7, 8, 9, 10, 11, 12, 13, 16, 18] _ (hSt true true true true false false true false true { s with M := M3, a2 := a, k2 := k } m f) rfl (Wk.mk' (id) (by repeat' constructor) (by repeat' constructor) (injOK_id _) rfl rfl rfl) ?_
        intro m2
        exact n111100101 _ m2 _ (hp.sc2 hM hy)
      · refine VBoth.mk ?_ ?_
        · refine (VFact.mk hp.le ?_)
          refine Z _ _ _ [37] ?_
          refine (VFz.mk fun x _ M3 hM hx => ?_)
          refine (VFact.mk (hp.le.trans hM) ?_)
          refine J _ _ [0, 1, 2, 3, 4, 5, 6, 7, 8, 10, 11, 12, 13, 14, 16, 18] _ (hSt true true true false true false true false true { s with M := M3, x3 := x } m f) rfl (Wk.mk' (id) (by repeat' constructor) (by repeat' constructor) (injOK_id _) rfl rfl rfl) ?_
          intro m2
          exact n111010101 _ m2 _ (hp.sb3 hM hx)
        · refine (VFact.mk hp.le ?_)
          refine J _ _ [0, 1, 2, 3, 4, 5, 6, 7, 8, 10, 11, 12, 13, 16, 17, 18] _ (hSt true true true false false false true true true s m f) rfl (Wk.mk' (fun i => if i = 94 then 100 else i) (by repeat' constructor) (by repeat' constructor) (by simp [injOK, hSt, hOw, ifc]) rfl rfl rfl) ?_
          intro m2
          exact n111000111 _ m2 _ hp
    have n111000011 : ∀ (s : HD) (m f : Mem), HP true true true false false false M2 s → T 7 [0, 1, 2, 3, 4, 5, 6, 7, 8, 10, 11, 12, 13, 17, 18] (hSt true true true false false false false true true s m f) := by
      clear n111111000 n111110100 n111110010 n111110001 n111100110 n111100101 n111010110 n111010101 n110010111 n101010111 n111110000 n111100100 n111100010 n111100001 n111010100 n111010010 n111010001 n111000110 n111000101
      intro s m f hp
      refine H _ _ _ ?_
      refine VBoth.mk ?_ ?_
      · refine (VOwn.frz ?_)
        refine (VFn.mk _ (row_fn 5 s.x2 [spA, spA, spC, (0, 300)] s.M (hp.p2 rfl) (i64_of (by decide)) (by decide) (by decide)) ?_)
        rintro rs M3 hM ⟨y, rfl, _, hy⟩
        obtain ⟨a, k, rfl⟩ := hy.shape
        refine (VFact.mk (hp.le.trans hM) ?_)
        refine J _ _ [0, 1, 2, 3, 4, 5, 6, 7, 8, 9, 10, 11, 12, 13, 17, 18] _ (hSt true true true true false false false true true { s with M := M3, a2 := a, k2 := k } m f) rfl (Wk.mk' (id) (by repeat' constructor) (by repeat' constructor) (injOK_id _) rfl rfl rfl) ?_
        intro m2
        exact n111100011 _ m2 _ (hp.sc2 hM hy)
      · refine VBoth.mk ?_ ?_
        · refine (VFact.mk hp.le ?_)
          refine Z _ _ _ [37] ?_
          refine (VFz.mk fun x _ M3 hM hx => ?_)
          refine (VFact.mk (hp.le.trans hM) ?_)
          refine J _ _ [0, 1, 2, 3, 4, 5, 6, 7, 8, 10, 11, 12, 13, 14, 17, 18] _ (hSt true true true false true false false true true { s with M := M3, x3 := x } m f) rfl (Wk.mk' (id) (by repeat' constructor) (by repeat' constructor) (injOK_id _) rfl rfl rfl) ?_
          intro m2
          exact n111010011 _ m2 _ (hp.sb3 hM hx)
        · refine (VFact.mk hp.le ?_)
          refine J _ _ [0, 1, 2, 3, 4, 5, 6, 7, 8, 10, 11, 12, 13, 16, 17, 18] _ (hSt true true true false false false true true true s m f) rfl (Wk.mk' (fun i => if i = 93 then 100 else i) (by repeat' constructor) (by repeat' constructor) (by simp [injOK, hSt, hOw, ifc]) rfl rfl rfl) ?_
          intro m2
          exact n111000111 _ m2 _ hp
    have n110010110 : ∀ (s : HD) (m f : Mem), HP true true false false true false M2 s → T 7 [0, 1, 2, 3, 4, 5, 6, 7, 10, 11, 12, 13, 14, 16, 17] (hSt true true false false true false true true false s m f) := by
      clear n111111000 n111110100 n111110010 n111110001 n111100110 n111100101 n111100011 n111010101 n111010011 n111000111 n101010111 n111110000 n111100100 n111100010 n111100001 n111010100 n111010010 n111010001 n111000110 n111000101 n111000011
      intro s m f hp
      refine H _ _ _ ?_
      refine VBoth.mk ?_ ?_
      · refine (VFact.mk hp.le ?_)
        refine Z _ _ _ [31] ?_
        refine (VFz.mk fun x _ M3 hM hx => ?_)
        refine (VFact.mk (hp.le.trans hM) ?_)
        refine J _ _ [0, 1, 2, 3, 4, 5, 6, 7, 8, 10, 11, 12, 13, 14, 16, 17] _ (hSt true true true false true false true true false { s with M := M3, x2 := x } m f) rfl (Wk.mk' (id) (by repeat' constructor) (by repeat' constructor) (injOK_id _) rfl rfl rfl) ?_
        intro m2
        exact n111010110 _ m2 _ (hp.sb2 hM hx)
      · refine (VFact.mk hp.le ?_)
        refine J _ _ [0, 1, 2, 3, 4, 5, 6, 7, 10, 11, 12, 13, 14, 16, 17, 18] _ (hSt true true false false true false true true true s m f) rfl (Wk.mk' (fun i => if i = 95 then 100 else i) (by repeat' constructor) (by repeat' constructor) (by simp [injOK, hSt, hOw, ifc]) rfl rfl rfl) ?_
        intro m2
        exact n110010111 _ m2 _ hp
    have n110010101 : ∀ (s : HD) (m f : Mem), HP true true false false true false M2 s → T 7 [0, 1, 2, 3, 4, 5, 6, 7, 10, 11, 12, 13, 14, 16, 18] (hSt true true false false true false true false true s m f) := by
      clear n111111000 n111110100 n111110010 n111110001 n111100110 n111100101 n111100011 n111010110 n111010011 n111000111 n101010111 n111110000 n111100100 n111100010 n111100001 n111010100 n111010010 n111010001 n111000110 n111000101 n111000011 n110010110
      intro s m f hp
      refine H _ _ _ ?_
      refine VBoth.mk ?_ ?_
      · refine (VFact.mk hp.le ?_)
        refine Z _ _ _ [31] ?_
        refine (VFz.mk fun x _ M3 hM hx => ?_)
        refine (VFact.mk (hp.le.trans hM) ?_)
        refine J _ _ [0, 1, 2, 3, 4, 5, 6, 7, 8, 10, 11, 12, 13, 14, 16, 18] _ (hSt true true true false true false true false true { s with M := M3, x2 := x } m f) rfl (Wk.mk' (id) (by repeat' constructor) (by repeat' constructor) (injOK_id _) rfl rfl rfl) ?_
        intro m2
        exact n111010101 _ m2 _ (hp.sb2 hM hx)
      · refine (VFact.mk hp.le ?_)
        refine J _ _ [0, 1, 2, 3, 4, 5, 6, 7, 10, 11, 12, 13, 14, 16, 17, 18] _ (hSt true true false false true false true true true s m f) rfl (Wk.mk' (fun i => if i = 94 then 100 else i) (by repeat' constructor) (by repeat' constructor) (by simp [injOK, hSt, hOw, ifc]) rfl rfl rfl) ?_
        intro m2
        exact n110010111 _ m2 _ hp
    have n110010011 : ∀ (s : HD) (m f : Mem), HP true true false false true false M2 s → T 7 [0, 1, 2, 3, 4, 5, 6, 7, 10, 11, 12, 13, 14, 17, 18] (hSt true true false false true false false true true s m f) := by
      clear n111111000 n111110100 n111110010 n111110001 n111100110 n111100101 n111100011 n111010110 n111010101 n111000111 n101010111 n111110000 n111100100 n111100010 n111100001 n111010100 n111010010 n111010001 n111000110 n111000101 n111000011 n110010110 n110010101
      intro s m f hp
      refine H _ _ _ ?_
      refine VBoth.mk ?_ ?_
      · refine (VFact.mk hp.le ?_)
        refine Z _ _ _ [31] ?_
        refine (VFz.mk fun x _ M3 hM hx => ?_)
        refine (VFact.mk (hp.le.trans hM) ?_)
        refine J _ _ [0, 1, 2, 3, 4, 5, 6, 7, 8, 10, 11, 12, 13, 14, 17, 18] _ (hSt true true true false true false false true true { s with M := M3, x2 := x } m f) rfl (Wk.mk' (id) (by repeat' constructor) (by repeat' constructor) (injOK_id _) rfl rfl rfl) ?_
        intro m2
        exact n111010011 _ m2 _ (hp.sb2 hM hx)
      · refine (VFact.mk hp.le ?_)
        refine J _ _ [0, 1, 2, 3, 4, 5, 6, 7, 10, 11, 12, 13, 14, 16, 17, 18] _ (hSt true true false false true false true true true s m f) rfl (Wk.mk' (fun i => if i = 93 then 100 else i) (by repeat' constructor) (by repeat' constructor) (by simp [injOK, hSt, hOw, ifc]) rfl rfl rfl) ?_
        intro m2
        exact n110010111 _ m2 _ hp
    have n110000111 : ∀ (s : HD) (m f : Mem), HP true true false false false false M2 s → T 7 [0, 1, 2, 3, 4, 5, 6, 7, 10, 11, 12, 13, 16, 17, 18] (hSt true true false false false false true true true s m f) := by
      clear n111111000 n111110100 n111110010 n111110001 n111100110 n111100101 n111100011 n111010110 n111010101 n111010011 n101010111 n111110000 n111100100 n111100010 n111100001 n111010100 n111010010 n111010001 n111000110 n111000101 n111000011 n110010110 n110010101 n110010011
      intro s m f hp
      refine H _ _ _ ?_
      refine VBoth.mk ?_ ?_
      · refine (VFact.mk hp.le ?_)
        refine Z _ _ _ [31] ?_
        refine (VFz.mk fun x _ M3 hM hx => ?_)
        refine (VFact.mk (hp.le.trans hM) ?_)
        refine J _ _ [0, 1, 2, 3, 4, 5, 6, 7, 8, 10, 11, 12, 13, 16, 17, 18] _ (hSt true true true false false false true true true { s with M := M3, x2 := x } m f) rfl (Wk.mk' (id) (by repeat' constructor) (by repeat' constructor) (injOK_id _) rfl rfl rfl) ?_
        intro m2
        exact n111000111 _ m2 _ (hp.sb2 hM hx)
      · refine (VFact.mk hp.le ?_)
        refine Z _ _ _ [37] ?_
        refine (VFz.mk fun x _ M3 hM hx => ?_)
        refine (VFact.mk (hp.le.trans hM) ?_)
        refine J _ _ [0, 1, 2, 3, 4, 5, 6, 7, 10, 11, 12, 13, 14, 16, 17, 18] _ (hSt true true false false true false true true true { s with M := M3, x3 := x } m f) rfl (Wk.mk' (id) (by repeat' constructor) (by repeat' constructor) (injOK_id _) rfl rfl rfl) ?_
        intro m2
        exact n110010111 _ m2 _ (hp.sb3 hM hx)
    have n101010110 : ∀ (s : HD) (m f : Mem), HP true false true false true false M2 s → T 7 [0, 1, 2, 4, 5, 6, 7, 8, 10, 11, 12, 13, 14, 16, 17] (hSt true false true false true false true true false s m f) := by
      clear n111111000 n111110100 n111110010 n111110001 n111100110 n111100101 n111100011 n111010101 n111010011 n111000111 n110010111 n111110000 n111100100 n111100010 n111100001 n111010100 n111010010 n111010001 n111000110 n111000101 n111000011 n110010110 n110010101 n110010011 n110000111
      intro s m f hp
      refine H _ _ _ ?_
      refine VBoth.mk ?_ ?_
      · refine (VOwn.frz ?_)
        refine (VFn.mk _ (row_fn 10 s.x1 [spA, spC] s.M (hp.p1 rfl) (i64_of (by decide)) (by decide) (by decide)) ?_)
        rintro rs M3 hM ⟨y, rfl, _, hy⟩
        obtain ⟨a, k, rfl⟩ := hy.shape
        refine (VFact.mk (hp.le.trans hM) ?_)
        refine J _ _ [0, 1, 2, 3, 4, 5, 6, 7, 8, 10, 11, 12, 13, 14, 16, 17] _ (hSt true true true false true false true true false { s with M := M3, a1 := a, k1 := k } m f) rfl (Wk.mk' (id) (by repeat' constructor) (by repeat' constructor) (injOK_id _) rfl rfl rfl) ?_
        intro m2
        exact n111010110 _ m2 _ (hp.sc1 hM hy)
      · refine (VFact.mk hp.le ?_)
        refine J _ _ [0, 1, 2, 4, 5, 6, 7, 8, 10, 11, 12, 13, 14, 16, 17, 18] _ (hSt true false true false true false true true true s m f) rfl (Wk.mk' (fun i => if i = 95 then 100 else i) (by repeat' constructor) (by repeat' constructor) (by simp [injOK, hSt, hOw, ifc]) rfl rfl rfl) ?_
        intro m2
        exact n101010111 _ m2 _ hp
    have n101010101 : ∀ (s : HD) (m f : Mem), HP true false true false true false M2 s → T 7 [0, 1, 2, 4, 5, 6, 7, 8, 10, 11, 12, 13, 14, 16, 18] (hSt true false true false true false true false true s m f) := by
      clear n111111000 n111110100 n111110010 n111110001 n111100110 n111100101 n111100011 n111010110 n111010011 n111000111 n110010111 n111110000 n111100100 n111100010 n111100001 n111010100 n111010010 n111010001 n111000110 n111000101 n111000011 n110010110 n110010101 n110010011 n110000111 n101010110
      intro s m f hp
      refine H _ _ _ ?_
      refine VBoth.mk ?_ ?_
      · refine (VOwn.frz ?_)
        refine (VFn.mk _ (row_fn 10 s.x1 [spA, spC] s.M (hp.p1 rfl) (i64_of (by decide)) (by decide) (by decide)) ?_)
        rintro rs M3 hM ⟨y, rfl, _, hy⟩
        obtain ⟨a, k, rfl⟩ := hy.shape
        refine (VFact.mk (hp.le.trans hM) ?_)
        refine J _ _ [0, 1, 2, 3, 4, 5, 6, 7, 8, 10, 11, 12, 13, 14, 16, 18] _ (hSt true true true false true false true false true { s with M := M3, a1 := a, k1 := k } m f) rfl (Wk.mk' (id) (by repeat' constructor) (by repeat' constructor) (injOK_id _) rfl rfl rfl) ?_
        intro m2
        exact n111010101 _ m2 _ (hp.sc1 hM hy)
      · refine (VFact.mk hp.le ?_)
        refine J _ _ [0, 1, 2, 4, 5, 6, 7, 8, 10, 11, 12, 13, 14, 16, 17, 18] _ (hSt true false true false true false true true true s m f) rfl (Wk.mk' (fun i => if i = 94 then 100 else i) (by repeat' constructor) (by repeat' constructor) (by simp [injOK, hSt, hOw, ifc]) rfl rfl rfl) ?_
        intro m2
        exact n101010111 _ m2 _ hp
    have n101010011 : ∀ (s : HD) (m f : Mem), HP true false true false true false M2 s → T 7 [0, 1, 2, 4, 5, 6, 7, 8, 10, 11, 12, 13, 14, 17, 18] (hSt true false true false true false false true true s m f) := by
      clear n111111000 n111110100 n111110010 n111110001 n111100110 n111100101 n111100011 n111010110 n111010101 n111000111 n110010111 n111110000 n111100100 n111100010 n111100001 n111010100 n111010010 n111010001 n111000110 n111000101 n111000011 n110010110 n110010101 n110010011 n110000111 n101010110 n101010101
      intro s m f hp
      refine H _ _ _ ?_
      refine VBoth.mk ?_ ?_
      · refine (VOwn.frz ?_)
        refine (VFn.mk _ (row_fn 10 s.x1 [spA, spC] s.M (hp.p1 rfl) (i64_of (by decide)) (by decide) (by decide)) ?_)
        rintro rs M3 hM ⟨y, rfl, _, hy⟩
        obtain ⟨a, k, rfl⟩ := hy.shape
        refine (VFact.mk (hp.le.trans hM) ?_)
        refine J _ _ [0, 1, 2, 3, 4, 5, 6, 7, 8, 10, 11, 12, 13, 14, 17, 18] _ (hSt true true true false true false false true true { s with M := M3, a1 := a, k1 := k } m f) rfl (Wk.mk' (id) (by repeat' constructor) (by repeat' constructor) (injOK_id _) rfl rfl rfl) ?_
        intro m2
        exact n111010011 _ m2 _ (hp.sc1 hM hy)
      · refine (VFact.mk hp.le ?_)
        refine J _ _ [0, 1, 2, 4, 5, 6, 7, 8, 10, 11, 12, 13, 14, 16, 17, 18] _ (hSt true false true false true false true true true s m f) rfl (Wk.mk' (fun i => if i = 93 then 100 else i) (by repeat' constructor) (by repeat' constructor) (by simp [injOK, hSt, hOw, ifc]) rfl rfl rfl) ?_
        intro m2
        exact n101010111 _ m2 _ hp
    have n101000111 : ∀ (s : HD) (m f : Mem), HP true false true false false false M2 s → T 7 [0, 1, 2, 4, 5, 6, 7, 8, 10, 11, 12, 13, 16, 17, 18] (hSt true false true false false false true true true s m f) := by
      clear n111111000 n111110100 n111110010 n111110001 n111100110 n111100101 n111100011 n111010110 n111010101 n111010011 n110010111 n111110000 n111100100 n111100010 n111100001 n111010100 n111010010 n111010001 n111000110 n111000101 n111000011 n110010110 n110010101 n110010011 n110000111 n101010110 n101010101 n101010011
      intro s m f hp
      refine H _ _ _ ?_
      refine VBoth.mk ?_ ?_
      · refine (VOwn.frz ?_)
        refine (VFn.mk _ (row_fn 10 s.x1 [spA, spC] s.M (hp.p1 rfl) (i64_of (by decide)) (by decide) (by decide)) ?_)
        rintro rs M3 hM ⟨y, rfl, _, hy⟩
        obtain ⟨a, k, rfl⟩ := hy.shape
        refine (VFact.mk (hp.le.trans hM) ?_)
        refine J _ _ [0, 1, 2, 3, 4, 5, 6, 7, 8, 10, 11, 12, 13, 16, 17, 18] _ (hSt true true true false false false true true true { s with M := M3, a1 := a, k1 := k } m f) rfl (Wk.mk' (id) (by repeat' constructor) (by repeat' constructor) (injOK_id _) rfl rfl rfl) ?_
        intro m2
        exact n111000111 _ m2 _ (hp.sc1 hM hy)
      · refine (VFact.mk hp.le ?_)
        refine Z _ _ _ [37] ?_
        refine (VFz.mk fun x _ M3 hM hx => ?_)
        refine (VFact.mk (hp.le.trans hM) ?_)
        refine J _ _ [0, 1, 2, 4, 5, 6, 7, 8, 10, 11, 12, 13, 14, 16, 17, 18] _ (hSt true false true false true false true true true { s with M := M3, x3 := x } m f) rfl (Wk.mk' (id) (by repeat' constructor) (by repeat' constructor) (injOK_id _) rfl rfl rfl) ?_
        intro m2
        exact n101010111 _ m2 _ (hp.sb3 hM hx)
    have n100010111 : ∀ (s : HD) (m f : Mem), HP true false false false true false M2 s → T 7 [0, 1, 2, 4, 5, 6, 7, 10, 11, 12, 13, 14, 16, 17, 18] (hSt true false false false true false true true true s m f) := by
      clear n111111000 n111110100 n111110010 n111110001 n111100110 n111100101 n111100011 n111010110 n111010101 n111010011 n111000111 n111110000 n111100100 n111100010 n111100001 n111010100 n111010010 n111010001 n111000110 n111000101 n111000011 n110010110 n110010101 n110010011 n110000111 n101010110 n101010101 n101010011 n101000111
      intro s m f hp
      refine H _ _ _ ?_
      refine VBoth.mk ?_ ?_
      · refine (VOwn.frz ?_)
        refine (VFn.mk _ (row_fn 10 s.x1 [spA, spC] s.M (hp.p1 rfl) (i64_of (by decide)) (by decide) (by decide)) ?_)
        rintro rs M3 hM ⟨y, rfl, _, hy⟩
        obtain ⟨a, k, rfl⟩ := hy.shape
        refine (VFact.mk (hp.le.trans hM) ?_)
        refine J _ _ [0, 1, 2, 3, 4, 5, 6, 7, 10, 11, 12, 13, 14, 16, 17, 18] _ (hSt true true false false true false true true true { s with M := M3, a1 := a, k1 := k } m f) rfl (Wk.mk' (id) (by repeat' constructor) (by repeat' constructor) (injOK_id _) rfl rfl rfl) ?_
        intro m2
        exact n110010111 _ m2 _ (hp.sc1 hM hy)
      · refine (VFact.mk hp.le ?_)
        refine Z _ _ _ [31] ?_
        refine (VFz.mk fun x _ M3 hM hx => ?_)
        refine (VFact.mk (hp.le.trans hM) ?_)
        refine J _ _ [0, 1, 2, 4, 5, 6, 7, 8, 10, 11, 12, 13, 14, 16, 17, 18] _ (hSt true false true false true false true true true { s with M := M3, x2 := x } m f) rfl (Wk.mk' (id) (by repeat' constructor) (by repeat' constructor) (injOK_id _) rfl rfl rfl) ?_
        intro m2
        exact n101010111 _ m2 _ (hp.sb2 hM hx)
    have n001010111 : ∀ (s : HD) (m f : Mem), HP false false true false true false M2 s → T 7 [0, 1, 4, 5, 6, 7, 8, 10, 11, 12, 13, 14, 16, 17, 18] (hSt false false true false true false true true true s m f) := by
      clear n111111000 n111110100 n111110010 n111110001 n111100110 n111100101 n111100011 n111010110 n111010101 n111010011 n111000111 n110010111 n111110000 n111100100 n111100010 n111100001 n111010100 n111010010 n111010001 n111000110 n111000101 n111000011 n110010110 n110010101 n110010011 n110000111 n101010110 n101010101 n101010011 n101000111 n100010111
      intro s m f hp
      refine H _ _ _ ?_
      refine (VFact.mk hp.le ?_)
      refine Z _ _ _ [25] ?_
      refine (VFz.mk fun x _ M3 hM hx => ?_)
      refine (VFact.mk (hp.le.trans hM) ?_)
      refine J _ _ [0, 1, 2, 4, 5, 6, 7, 8, 10, 11, 12, 13, 14, 16, 17, 18] _ (hSt true false true false true false true true true { s with M := M3, x1 := x } m f) rfl (Wk.mk' (id) (by repeat' constructor) (by repeat' constructor) (injOK_id _) rfl rfl rfl) ?_
      intro m2
      exact n101010111 _ m2 _ (hp.sb1 hM hx)
    clear n111111000 n111110100 n111110010 n111110001 n111100110 n111100101 n111100011 n111010110 n111010101 n111010011 n111000111 n110010111 n101010111
    have n111100000 : ∀ (s : HD) (m f : Mem), HP true true true true false false M2 s → T 8 [0, 1, 2, 3, 4, 5, 6, 7, 8, 9, 10, 11, 12, 13] (hSt true true true true false false false false false s m f) := by
      clear n111010100 n111010010 n111010001 n111000110 n111000101 n111000011 n110010110 n110010101 n110010011 n110000111 n101010110 n101010101 n101010011 n101000111 n100010111 n001010111
      intro s m f hp
      refine H _ _ _ ?_
      refine VBoth.mk ?_ ?_
      · refine (VFact.mk hp.le ?_)
        refine Z _ _ _ [37] ?_
        refine (VFz.mk fun x _ M3 hM hx => ?_)
        refine (VFact.mk (hp.le.trans hM) ?_)
        refine J _ _ [0, 1, 2, 3, 4, 5, 6, 7, 8, 9, 10, 11, 12, 13, 14] _ (hSt true true true true true false false false false { s with M := M3, x3 := x } m f) rfl (Wk.mk' (id) (by repeat' constructor) (by repeat' constructor) (injOK_id _) rfl rfl rfl) ?_
        intro m2
        exact n111110000 _ m2 _ (hp.sb3 hM hx)
      · refine VBoth.mk ?_ ?_
        · refine (VFact.mk hp.le ?_)
          refine J _ _ [0, 1, 2, 3, 4, 5, 6, 7, 8, 9, 10, 11, 12, 13, 16] _ (hSt true true true true false false true false false s m f) rfl (Wk.mk' (fun i => if i = 93 then 100 else i) (by repeat' constructor) (by repeat' constructor) (by simp [injOK, hSt, hOw, ifc]) rfl rfl rfl) ?_
          intro m2
          exact n111100100 _ m2 _ hp
        · refine VBoth.mk ?_ ?_
          · refine (VFact.mk hp.le ?_)
            refine J _ _ [0, 1, 2, 3, 4, 5, 6, 7, 8, 9, 10, 11, 12, 13, 17] _ (hSt true true true true false false false true false s m f) rfl (Wk.mk' (fun i => if i = 94 then 100 else i) (by repeat' constructor) (by repeat' constructor) (by simp [injOK, hSt, hOw, ifc]) rfl rfl rfl) ?_
            intro m2
            exact n111100010 _ m2 _ hp
          · refine (VFact.mk hp.le ?_)
            refine J _ _ [0, 1, 2, 3, 4, 5, 6, 7, 8, 9, 10, 11, 12, 13, 18] _ (hSt true true true true false false false false true s m f) rfl (Wk.mk' (fun i => if i = 95 then 100 else i) (by repeat' constructor) (by repeat' constructor) (by simp [injOK, hSt, hOw, ifc]) rfl rfl rfl) ?_
            intro m2
            exact n111100001 _ m2 _ hp
    have n111010000 : ∀ (s : HD) (m f : Mem), HP true true true false true false M2 s → T 8 [0, 1, 2, 3, 4, 5, 6, 7, 8, 10, 11, 12, 13, 14] (hSt true true true false true false false false false s m f) := by
      clear n111100100 n111100010 n111100001 n111000110 n111000101 n111000011 n110010110 n110010101 n110010011 n110000111 n101010110 n101010101 n101010011 n101000111 n100010111 n001010111 n111100000
      intro s m f hp
      refine H _ _ _ ?_
      refine VBoth.mk ?_ ?_
      · refine (VOwn.frz ?_)
        refine (VFn.mk _ (row_fn 5 s.x2 [spA, spA, spC, (0, 300)] s.M (hp.p2 rfl) (i64_of (by decide)) (by decide) (by decide)) ?_)
        rintro rs M3 hM ⟨y, rfl, _, hy⟩
        obtain ⟨a, k, rfl⟩ := hy.shape
        refine (VFact.mk (hp.le.trans hM) ?_)
        refine J _ _ [0, 1, 2, 3, 4, 5, 6, 7, 8, 9, 10, 11, 12, 13, 14] _ (hSt true true true true true false false false false { s with M := M3, a2 := a, k2 := k } m f) rfl (Wk.mk' (id) (by repeat' constructor) (by repeat' constructor) (injOK_id _) rfl rfl rfl) ?_
        intro m2
        exact n111110000 _ m2 _ (hp.sc2 hM hy)
      · refine VBoth.mk ?_ ?_
        · refine (VFact.mk hp.le ?_)
          refine J _ _ [0, 1, 2, 3, 4, 5, 6, 7, 8, 10, 11, 12, 13, 14, 16] _ (hSt true true true false true false true false false s m f) rfl (Wk.mk' (fun i => if i = 93 then 100 else i) (by repeat' constructor) (by repeat' constructor) (by simp [injOK, hSt, hOw, ifc]) rfl rfl rfl) ?_
          intro m2
          exact n111010100 _ m2 _ hp
        · refine VBoth.mk ?_ ?_
          · refine (VFact.mk hp.le ?_)
            refine J _ _ [0, 1, 2, 3, 4, 5, 6, 7, 8, 10, 11, 12, 13, 14, 17] _ (hSt true true true false true false false true false s m f) rfl (Wk.mk' (fun i => if i = 94 then 100 else i) (by repeat' constructor) (by repeat' constructor) (by simp [injOK, hSt, hOw, ifc]) rfl rfl rfl) ?_
            intro m2
            exact n111010010 _ m2 _ hp
          · refine (VFact.mk hp.le ?_)
            refine J _ _ [0, 1, 2, 3, 4, 5, 6, 7, 8, 10, 11, 12, 13, 14, 18] _ (hSt true true true false true false false false true s m f) rfl (Wk.mk' (fun i => if i = 95 then 100 else i) (by repeat' constructor) (by repeat' constructor) (by simp [injOK, hSt, hOw, ifc]) rfl rfl rfl) ?_
            intro m2
            exact n111010001 _ m2 _ hp
    have n111000100 : ∀ (s : HD) (m f : Mem), HP true true true false false false M2 s → T 8 [0, 1, 2, 3, 4, 5, 6, 7, 8, 10, 11, 12, 13, 16] (hSt true true true false false false true false false s m f) := by
      clear n111110000 n111100010 n111100001 n111010010 n111010001 n111000011 n110010110 n110010101 n110010011 n110000111 n101010110 n101010101 n101010011 n101000111 n100010111 n001010111 n111100000 n111010000
      intro s m f hp
      refine H _ _ _ ?_
      refine VBoth.mk ?_ ?_
      · refine (VOwn.frz ?_)
        refine (VFn.mk _ (row_fn 5 s.x2 [spA, spA, spC, (0, 300)] s.M (hp.p2 rfl) (i64_of (by decide)) (by decide) (by decide)) ?_)
        rintro rs M3 hM ⟨y, rfl, _, hy⟩
        obtain ⟨a, k, rfl⟩ := hy.shape
        refine (VFact.mk (hp.le.trans hM) ?_)
        refine J _ _ [0, 1, 2, 3, 4, 5, 6, 7, 8, 9, 10, 11, 12, 13, 16] _ (hSt true true true true false false true false false { s with M := M3, a2 := a, k2 := k } m f) rfl (Wk.mk' (id) (by repeat' constructor) (by repeat' constructor) (injOK_id _) rfl rfl rfl) ?_
        intro m2
        exact n111100100 _ m2 _ (hp.sc2 hM hy)
      · refine VBoth.mk ?_ ?_
        · refine (VFact.mk hp.le ?_)
          refine Z _ _ _ [37] ?_
          refine (VFz.mk fun x _ M3 hM hx => ?_)
          refine (VFact.mk (hp.le.trans hM) ?_)
          refine J _ _ [0, 1, 2, 3, 4, 5, 6, 7, 8, 10, 11, 12, 13, 14, 16] _ (hSt true true true false true false true false false { s with M := M3, x3 := x } m f) rfl (Wk.mk' (id) (by repeat' constructor) (by repeat' constructor) (injOK_id _) rfl rfl rfl) ?_
          intro m2
          exact n111010100 _ m2 _ (hp.sb3 hM hx)
        · refine VBoth.mk ?_ ?_
          · refine (VFact.mk hp.le ?_)
            refine J _ _ [0, 1, 2, 3, 4, 5, 6, 7, 8, 10, 11, 12, 13, 16, 17] _ (hSt true true true false false false true true false s m f) rfl (Wk.mk' (fun i => if i = 94 then 100 else i) (by repeat' constructor) (by repeat' constructor) (by simp [injOK, hSt, hOw, ifc]) rfl rfl rfl) ?_
            intro m2
            exact n111000110 _ m2 _ hp
          · refine (VFact.mk hp.le ?_)
            refine J _ _ [0, 1, 2, 3, 4, 5, 6, 7, 8, 10, 11, 12, 13, 16, 18] _ (hSt true true true false false false true false true s m f) rfl (Wk.mk' (fun i => if i = 95 then 100 else i) (by repeat' constructor) (by repeat' constructor) (by simp [injOK, hSt, hOw, ifc]) rfl rfl rfl) ?_
            intro m2
            exact n111000101 _ m2 _ hp
    have n111000010 : ∀ (s : HD) (m f : Mem), HP true true true false false false M2 s → T 8 [0, 1, 2, 3, 4, 5, 6, 7, 8, 10, 11, 12, 13, 17] (hSt true true true false false false false true false s m f) := by
      clear n111110000 n111100100 n111100001 n111010100 n111010001 n111000101 n110010110 n110010101 n110010011 n110000111 n101010110 n101010101 n101010011 n101000111 n100010111 n001010111 n111100000 n111010000 n111000100
      intro s m f hp
      refine H _ _ _ ?_
      refine VBoth.mk ?_ ?_
      · refine (VOwn.frz ?_)
        refine (VFn.mk _ (row_fn 5 s.x2 [spA, spA, spC, (0, 300)] s.M (hp.p2 rfl) (i64_of (by decide)) (by decide) (by decide)) ?_)
        rintro rs M3 hM ⟨y, rfl, _, hy⟩
        obtain ⟨a, k, rfl⟩ := hy.shape
        refine (VFact.mk (hp.le.trans hM) ?_)
        refine J _ _ [0, 1, 2, 3, 4, 5, 6, 7, 8, 9, 10, 11, 12, 13, 17] _ (hSt true true true true false false false true false { s with M := M3, a2 := a, k2 := k } m f) rfl (Wk.mk' (id) (by repeat' constructor) (by repeat' constructor) (injOK_id _) rfl rfl rfl) ?_
        intro m2
        exact n111100010 _ m2 _ (hp.sc2 hM hy)
      · refine VBoth.mk ?_ ?_
        · refine (VFact.mk hp.le ?_)
          refine Z _ _ _ [37] ?_
          refine (VFz.mk fun x _ M3 hM hx => ?_)
          refine (VFact.mk (hp.le.trans hM) ?_)
          refine J _ _ [0, 1, 2, 3, 4, 5, 6, 7, 8, 10, 11, 12, 13, 14, 17] _ (hSt true true true false true false false true false { s with M := M3, x3 := x } m f) rfl (Wk.mk' (id) (by repeat' constructor) (by repeat' constructor) (injOK_id _) rfl rfl rfl) ?_
          intro m2
          exact n111010010 _ m2 _ (hp.sb3 hM hx)
        · refine VBoth.mk ?_ ?_
          · refine (VFact.mk hp.le ?_)
            refine J _ _ [0, 1, 2, 3, 4, 5, 6, 7, 8, 10, 11, 12, 13, 16, 17] _ (hSt true true true false false false true true false s m f) rfl (Wk.mk' (fun i => if i = 93 then 100 else i) (by repeat' constructor) (by repeat' constructor) (by simp [injOK, hSt, hOw, ifc]) rfl rfl rfl) ?_
            intro m2
            exact n111000110 _ m2 _ hp
          · refine (VFact.mk hp.le ?_)
            refine J _ _ [0, 1, 2, 3, 4, 5, 6, 7, 8, 10, 11, 12, 13, 17, 18] _ (hSt true true true false false false false true true s m f) rfl (Wk.mk' (fun i => if i = 95 then 100 else i) (by repeat' constructor) (by repeat' constructor) (by simp [injOK, hSt, hOw, ifc]) rfl rfl rfl) ?_
            intro m2
            exact n111000011 _ m2 _ hp
    have n111000001 : ∀ (s : HD) (m f : Mem), HP true true true false false false M2 s → T 8 [0, 1, 2, 3, 4, 5, 6, 7, 8, 10, 11, 12, 13, 18] (hSt true true true false false false false false true s m f) := by
      clear n111110000 n111100100 n111100010 n111010100 n111010010 n111000110 n110010110 n110010101 n110010011 n110000111 n101010110 n101010101 n101010011 n101000111 n100010111 n001010111 n111100000 n111010000 n111000100 n111000010
      intro s m f hp
      refine H _ _ _ ?_
      refine VBoth.mk ?_ ?_
      · refine (VOwn.frz ?_)
        refine (VFn.mk _ (row_fn 5 s.x2 [spA, spA, spC, (0, 300)] s.M (hp.p2 rfl) (i64_of (by decide)) (by decide) (by decide)) ?_)
        rintro rs M3 hM ⟨y, rfl, _, hy⟩
        obtain ⟨a, k, rfl⟩ := hy.shape
        refine (VFact.mk (hp.le.trans hM) ?_)
        refine J _ _ [0, 1, 2, 3, 4, 5, 6, 7, 8, 9, 10, 11, 12, 13, 18] _ (hSt true true true true false false false false true { s with M := M3, a2 := a, k2 := k } m f) rfl (Wk.mk' (id) (by repeat' constructor) (by repeat' constructor) (injOK_id _) rfl rfl rfl) ?_
        intro m2
        exact n111100001 _ m2 _ (hp.sc2 hM hy)
      · refine VBoth.mk ?_ ?_
        · refine (VFact.mk hp.le ?_)
          refine Z _ _ _ [37] ?_
          refine (VFz.mk fun x _ M3 hM hx => ?_)
          refine (VFact.mk (hp.le.trans hM) ?_)
          refine J _ _ [0, 1, 2, 3, 4, 5, 6, 7, 8, 10, 11, 12, 13, 14, 18] _ (hSt true true true false true false false false true { s with M := M3, x3 := x } m f) rfl (Wk.mk' (id) (by repeat' constructor) (by repeat' constructor) (injOK_id _) rfl rfl rfl) ?_
          intro m2
          exact n111010001 _ m2 _ (hp.sb3 hM hx)
        · refine VBoth.mk ?_ ?_
          · refine (VFact.mk hp.le ?_)
            refine J _ _ [0, 1, 2, 3, 4, 5, 6, 7, 8, 10, 11, 12, 13, 16, 18] _ (hSt true true true false false false true false true s m f) rfl (Wk.mk' (fun i => if i = 93 then 100 else i) (by repeat' constructor) (by repeat' constructor) (by simp [injOK, hSt, hOw, ifc]) rfl rfl rfl) ?_
            intro m2
            exact n111000101 _ m2 _ hp
          · refine (VFact.mk hp.le ?_)
            refine J _ _ [0, 1, 2, 3, 4, 5, 6, 7, 8, 10, 11, 12, 13, 17, 18] _ (hSt true true true false false false false true true s m f) rfl (Wk.mk' (fun i => if i = 94 then 100 else i) (by repeat' constructor) (by repeat' constructor) (by simp [injOK, hSt, hOw, ifc]) rfl rfl rfl) ?_
            intro m2
            exact n111000011 _ m2 _ hp
    have n110010100 : ∀ (s : HD) (m f : Mem), HP true true false false true false M2 s → T 8 [0, 1, 2, 3, 4, 5, 6, 7, 10, 11, 12, 13, 14, 16] (hSt true true false false true false true false false s m f) := by
      clear n111110000 n111100100 n111100010 n111100001 n111010010 n111010001 n111000110 n111000101 n111000011 n110010011 n110000111 n101010110 n101010101 n101010011 n101000111 n100010111 n001010111 n111100000 n111010000 n111000100 n111000010 n111000001
      intro s m f hp
      refine H _ _ _ ?_
      refine VBoth.mk ?_ ?_
      · refine (VFact.mk hp.le ?_)
        refine Z _ _ _ [31] ?_
        refine (VFz.mk fun x _ M3 hM hx => ?_)
        refine (VFact.mk (hp.le.trans hM) ?_)
        refine J _ _ [0, 1, 2, 3, 4, 5, 6, 7, 8, 10, 11, 12, 13, 14, 16] _ (hSt true true true false true false true false false { s with M := M3, x2 := x } m f) rfl (Wk.mk' (id) (by repeat' constructor) (by repeat' constructor) (injOK_id _) rfl rfl rfl) ?_
        intro m2
        exact n111010100 _ m2 _ (hp.sb2 hM hx)
      · refine VBoth.mk ?_ ?_
        · refine (VFact.mk hp.le ?_)
          refine J _ _ [0, 1, 2, 3, 4, 5, 6, 7, 10, 11, 12, 13, 14, 16, 17] _ (hSt true true false false true false true true false s m f) rfl (Wk.mk' (fun i => if i = 94 then 100 else i) (by repeat' constructor) (by repeat' constructor) (by simp [injOK, hSt, hOw, ifc]) rfl rfl rfl) ?_
          intro m2
          exact n110010110 _ m2 _ hp
        · refine (VFact.mk hp.le ?_)
          refine J _ _ [0, 1, 2, 3, 4, 5, 6, 7, 10, 11, 12, 13, 14, 16, 18] _ (hSt true true false false true false true false true s m f) rfl (Wk.mk' (fun i => if i = 95 then 100 else i) (by repeat' constructor) (by repeat' constructor) (by simp [injOK, hSt, hOw, ifc]) rfl rfl rfl) ?_
          intro m2
          exact n110010101 _ m2 _ hp
    have n110010010 : ∀ (s : HD) (m f : Mem), HP true true false false true false M2 s → T 8 [0, 1, 2, 3, 4, 5, 6, 7, 10, 11, 12, 13, 14, 17] (hSt true true false false true false false true false s m f) := by
      clear n111110000 n111100100 n111100010 n111100001 n111010100 n111010001 n111000110 n111000101 n111000011 n110010101 n110000111 n101010110 n101010101 n101010011 n101000111 n100010111 n001010111 n111100000 n111010000 n111000100 n111000010 n111000001 n110010100
      intro s m f hp
      refine H _ _ _ ?_
      refine VBoth.mk ?_ ?_
      · refine (VFact.mk hp.le ?_)
        refine Z _ _ _ [31] ?_
        refine (VFz.mk fun x _ M3 hM hx => ?_)
        refine (VFact.mk (hp.le.trans hM) ?_)
        refine J _ _ [0, 1, 2, 3, 4, 5, 6, 7, 8, 10, 11, 12, 13, 14, 17] _ (hSt true true true false true false false true false { s with M := M3, x2 := x } m f) rfl (Wk.mk' (id) (by repeat' constructor) (by repeat' constructor) (injOK_id _) rfl rfl rfl) ?_
        intro m2
        exact n111010010 _ m2 _ (hp.sb2 hM hx)
      · refine VBoth.mk ?_ ?_
        · refine (VFact.mk hp.le ?_)
          refine J _ _ [0, 1, 2, 3, 4, 5, 6, 7, 10, 11, 12, 13, 14, 16, 17] _ (hSt true true false false true false true true false s m f) rfl (Wk.mk' (fun i => if i = 93 then 100 else i) (by repeat' constructor) (by repeat' constructor) (by simp [injOK, hSt, hOw, ifc]) rfl rfl rfl) ?_
          intro m2
          exact n110010110 _ m2 _ hp
        · refine (VFact.mk hp.le ?_)
          refine J _ _ [0, 1, 2, 3, 4, 5, 6, 7, 10, 11, 12, 13, 14, 17, 18] _ (hSt true true false false true false false true true s m f) rfl (Wk.mk' (fun i => if i = 95 then 100 else i) (by repeat' constructor) (by repeat' constructor) (by simp [injOK, hSt, hOw, ifc]) rfl rfl rfl) ?_
          intro m2
          exact n110010011 _ m2 _ hp
    have n110010001 : ∀ (s : HD) (m f : Mem), HP true true false false true false M2 s → T 8 [0, 1, 2, 3, 4, 5, 6, 7, 10, 11, 12, 13, 14, 18] (hSt true true false false true false false false true s m f) := by
      clear n111110000 n111100100 n111100010 n111100001 n111010100 n111010010 n111000110 n111000101 n111000011 n110010110 n110000111 n101010110 n101010101 n101010011 n101000111 n100010111 n001010111 n111100000 n111010000 n111000100 n111000010 n111000001 n110010100 n110010010
      intro s m f hp
      refine H _ _ _ ?_
      refine VBoth.mk ?_ ?_
      · refine (VFact.mk hp.le ?_)
        refine Z _ _ _ [31] ?_
        refine (VFz.mk fun x _ M3 hM hx => ?_)
        refine (VFact.mk (hp.le.trans hM) ?_)
        refine J _ _ [0, 1, 2, 3, 4, 5, 6, 7, 8, 10, 11, 12, 13, 14, 18] _ (hSt true true true false true false false false true { s with M := M3, x2 := x } m f) rfl (Wk.mk' (id) (by repeat' constructor) (by repeat' constructor) (injOK_id _) rfl rfl rfl) ?_
        intro m2
        exact n111010001 _ m2 _ (hp.sb2 hM hx)
      · refine VBoth.mk ?_ ?_
        · refine (VFact.mk hp.le ?_)
          refine J _ _ [0, 1, 2, 3, 4, 5, 6, 7, 10, 11, 12, 13, 14, 16, 18] _ (hSt true true false false true false true false true s m f) rfl (Wk.mk' (fun i => if i = 93 then 100 else i) (by repeat' constructor) (by repeat' constructor) (by simp [injOK, hSt, hOw, ifc]) rfl rfl rfl) ?_
          intro m2
          exact n110010101 _ m2 _ hp
        · refine (VFact.mk hp.le ?_)
          refine J _ _ [0, 1, 2, 3, 4, 5, 6, 7, 10, 11, 12, 13, 14, 17, 18] _ (hSt true true false false true false false true true s m f) rfl (Wk.mk' (fun i => if i = 94 then 100 else i) (by repeat' constructor) (by repeat' constructor) (by simp [injOK, hSt, hOw, ifc]) rfl rfl rfl) ?_
          intro m2
          exact n110010011 _ m2 _ hp
    have n110000110 : ∀ (s : HD) (m f : Mem), HP true true false false false false M2 s → T 8 [0, 1, 2, 3, 4, 5, 6, 7, 10, 11, 12, 13, 16, 17] (hSt true true false false false false true true false s m f) := by
      clear n111110000 n111100100 n111100010 n111100001 n111010100 n111010010 n111010001 n111000101 n111000011 n110010101 n110010011 n101010110 n101010101 n101010011 n101000111 n100010111 n001010111 n111100000 n111010000 n111000100 n111000010 n111000001 n110010100 n110010010 n110010001
      intro s m f hp
      refine H _ _ _ ?_
      refine VBoth.mk ?_ ?_
      · refine (VFact.mk hp.le ?_)
        refine Z _ _ _ [31] ?_
        refine (VFz.mk fun x _ M3 hM hx => ?_)
        refine (VFact.mk (hp.le.trans hM) ?_)
        refine J _ _ [0, 1, 2, 3, 4, 5, 6, 7, 8, 10, 11, 12, 13, 16, 17] _ (hSt true true true false false false true true false { s with M := M3, x2 := x } m f) rfl (Wk.mk' (id) (by repeat' constructor) (by repeat' constructor) (injOK_id _) rfl rfl rfl) ?_
        intro m2
        exact n111000110 _ m2 _ (hp.sb2 hM hx)
      · refine VBoth.mk ?_ ?_
        · refine (VFact.mk hp.le ?_)
          refine Z _ _ _ [37] ?_
          refine (VFz.mk fun x _ M3 hM hx => ?_)
          refine (VFact.mk (hp.le.trans hM) ?_)
          refine J _ _ [0, 1, 2, 3, 4, 5, 6, 7, 10, 11, 12, 13, 14, 16, 17] _ (hSt true true false false true false true true false { s with M := M3, x3 := x } m f) rfl (Wk.mk' (id) (by repeat' constructor) (by repeat' constructor) (injOK_id _) rfl rfl rfl) ?_
          intro m2
          exact n110010110 _ m2 _ (hp.sb3 hM hx)
        · refine (VFact.mk hp.le ?_)
          refine J _ _ [0, 1, 2, 3, 4, 5, 6, 7, 10, 11, 12, 13, 16, 17, 18] _ (hSt true true false false false false true true true s m f) rfl (Wk.mk' (fun i => if i = 95 then 100 else i) (by repeat' constructor) (by repeat' constructor) (by simp [injOK, hSt, hOw, ifc]) rfl rfl rfl) ?_
          intro m2
          exact n110000111 _ m2 _ hp
    have n110000101 : ∀ (s : HD) (m f : Mem), HP true true false false false false M2 s → T 8 [0, 1, 2, 3, 4, 5, 6, 7, 10, 11, 12, 13, 16, 18] (hSt true true false false false false true false true s m f) := by
      clear n111110000 n111100100 n111100010 n111100001 n111010100 n111010010 n111010001 n111000110 n111000011 n110010110 n110010011 n101010110 n101010101 n101010011 n101000111 n100010111 n001010111 n111100000 n111010000 n111000100 n111000010 n111000001 n110010100 n110010010 n110010001 n110000110
      intro s m f hp
      refine H _ _ _ ?_
      refine VBoth.mk ?_ ?_
      · refine (VFact.mk hp.le ?_)
        refine Z _ _ _ [31] ?_
        refine (VFz.mk fun x _ M3 hM hx => ?_)
        refine (VFact.mk (hp.le.trans hM) ?_)
        refine J _ _ [0, 1, 2, 3, 4, 5, 6, 7, 8, 10, 11, 12, 13, 16, 18] _ (hSt true true true false false false true false true { s with M := M3, x2 := x } m f) rfl (Wk.mk' (id) (by repeat' constructor) (by repeat' constructor) (injOK_id _) rfl rfl rfl) ?_
        intro m2
        exact n111000101 _ m2 _ (hp.sb2 hM hx)
      · refine VBoth.mk ?_ ?_
        · refine (VFact.mk hp.le ?_)
          refine Z _ _ _ [37] ?_
          refine (VFz.mk fun x _ M3 hM hx => ?_)
          refine (VFact.mk (hp.le.trans hM) ?_)
          refine J _ _ [0, 1, 2, 3, 4, 5, 6, 7, 10, 11, 12, 13, 14, 16, 18] _ (hSt true true false false true false true false true { s with M := M3, x3 := x } m f) rfl (Wk.mk' (id) (by repeat' constructor) (by repeat' constructor) (injOK_id _) rfl rfl rfl) ?_
          intro m2
          exact n110010101 _ m2 _ (hp.sb3 hM hx)
        · refine (VFact.mk hp.le ?_)
          refine J _ _ [0, 1, 2, 3, 4, 5, 6, 7, 10, 11, 12, 13, 16, 17, 18] _ (hSt true true false false false false true true true s m f) rfl (Wk.mk' (fun i => if i = 94 then 100 else i) (by repeat' constructor) (by repeat' constructor) (by simp [injOK, hSt, hOw, ifc]) rfl rfl rfl) ?_
          intro m2
          exact n110000111 _ m2 _ hp
    have n110000011 : ∀ (s : HD) (m f : Mem), HP true true false false false false M2 s → T 8 [0, 1, 2, 3, 4, 5, 6, 7, 10, 11, 12, 13, 17, 18] (hSt true true false false false false false true true s m f) := by
      clear n111110000 n111100100 n111100010 n111100001 n111010100 n111010010 n111010001 n111000110 n111000101 n110010110 n110010101 n101010110 n101010101 n101010011 n101000111 n100010111 n001010111 n111100000 n111010000 n111000100 n111000010 n111000001 n110010100 n110010010 n110010001 n110000110 n110000101
      intro s m f hp
      refine H _ _ _ ?_
      refine VBoth.mk ?_ ?_
      · refine (VFact.mk hp.le ?_)
        refine Z _ _ _ [31] ?_
        refine (VFz.mk fun x _ M3 hM hx => ?_)
        refine (VFact.mk (hp.le.trans hM) ?_)
        refine J _ _ [0, 1, 2, 3, 4, 5, 6, 7, 8, 10, 11, 12, 13, 17, 18] _ (hSt true true true false false false false true true { s with M := M3, x2 := x } m f) rfl (Wk.mk' (id) (by repeat' constructor) (by repeat' constructor) (injOK_id _) rfl rfl rfl) ?_
        intro m2
        exact n111000011 _ m2 _ (hp.sb2 hM hx)
      · refine VBoth.mk ?_ ?_
        · refine (VFact.mk hp.le ?_)
          refine Z _ _ _ [37] ?_
          refine (VFz.mk fun x _ M3 hM hx => ?_)
          refine (VFact.mk (hp.le.trans hM) ?_)
          refine J _ _ [0, 1, 2, 3, 4, 5, 6, 7, 10, 11, 12, 13, 14, 17, 18] _ (hSt true true false false true false false true true { s with M := M3, x3 := x } m f) rfl (Wk.mk' (id) (by repeat' constructor) (by repeat' constructor) (injOK_id _) rfl rfl rfl) ?_
          intro m2
          exact n110010011 _ m2 _ (hp.sb3 hM hx)
        · refine (VFact.mk hp.le ?_)
          refine J _ _ [0, 1, 2, 3, 4, 5, 6, 7, 10, 11, 12, 13, 16, 17, 18] _ (hSt true true false false false false true true true s m f) rfl (Wk.mk' (fun i => if i = 93 then 100 else i) (by repeat' constructor) (by repeat' constructor) (by simp [injOK, hSt, hOw, ifc]) rfl rfl rfl) ?_
          intro m2
          exact n110000111 _ m2 _ hp
    have n101010100 : ∀ (s : HD) (m f : Mem), HP true false true false true false M2 s → T 8 [0, 1, 2, 4, 5, 6, 7, 8, 10, 11, 12, 13, 14, 16] (hSt true false true false true false true false false s m f) := by
      clear n111110000 n111100100 n111100010 n111100001 n111010010 n111010001 n111000110 n111000101 n111000011 n110010110 n110010101 n110010011 n110000111 n101010011 n101000111 n100010111 n001010111 n111100000 n111010000 n111000100 n111000010 n111000001 n110010100 n110010010 n110010001 n110000110 n110000101 n110000011
      intro s m f hp
      refine H _ _ _ ?_
      refine VBoth.mk ?_ ?_
      · refine (VOwn.frz ?_)
        refine (VFn.mk _ (row_fn 10 s.x1 [spA, spC] s.M (hp.p1 rfl) (i64_of (by decide)) (by decide) (by decide)) ?_)
        rintro rs M3 hM ⟨y, rfl, _, hy⟩
        obtain ⟨a, k, rfl⟩ := hy.shape
        refine (VFact.mk (hp.le.trans hM) ?_)
        refine J _ _ [0, 1, 2, 3, 4, 5, 6, 7, 8, 10, 11, 12, 13, 14, 16] _ (hSt true true true false true false true false false { s with M := M3, a1 := a, k1 := k } m f) rfl (Wk.mk' (id) (by repeat' constructor) (by repeat' constructor) (injOK_id _) rfl rfl rfl) ?_
        intro m2
        exact n111010100 _ m2 _ (hp.sc1 hM hy)
      · refine VBoth.mk ?_ ?_
        · refine (VFact.mk hp.le ?_)
          refine J _ _ [0, 1, 2, 4, 5, 6, 7, 8, 10, 11, 12, 13, 14, 16, 17] _ (hSt true false true false true false true true false s m f) rfl (Wk.mk' (fun i => if i = 94 then 100 else i) (by repeat' constructor) (by repeat' constructor) (by simp [injOK, hSt, hOw, ifc]) rfl rfl rfl) ?_
          intro m2
          exact n101010110 _ m2 _ hp
        · refine (VFact.mk hp.le ?_)
          refine J _ _ [0, 1, 2, 4, 5, 6, 7, 8, 10, 11, 12, 13, 14, 16, 18] _ (hSt true false true false true false true false true s m f) rfl (Wk.mk' (fun i => if i = 95 then 100 else i) (by repeat' constructor) (by repeat' constructor) (by simp [injOK, hSt, hOw, ifc]) rfl rfl rfl) ?_
          intro m2
          exact n101010101 _ m2 _ hp
    have n101010010 : ∀ (s : HD) (m f : Mem), HP true false true false true false M2 s → T 8 [0, 1, 2, 4, 5, 6, 7, 8, 10, 11, 12, 13, 14, 17] (hSt true false true false true false false true false s m f) := by
      clear n111110000 n111100100 n111100010 n111100001 n111010100 n111010001 n111000110 n111000101 n111000011 n110010110 n110010101 n110010011 n110000111 n101010101 n101000111 n100010111 n001010111 n111100000 n111010000 n111000100 n111000010 n111000001 n110010100 n110010010 n110010001 n110000110 n110000101 n110000011 n101010100
      intro s m f hp
      refine H _ _ _ ?_
      refine VBoth.mk ?_ ?_
      · refine (VOwn.frz ?_)
        refine (VFn.mk _ (row_fn 10 s.x1 [spA, spC] s.M (hp.p1 rfl) (i64_of (by decide)) (by decide) (by decide)) ?_)
        rintro rs M3 hM ⟨y, rfl, _, hy⟩
        obtain ⟨a, k, rfl⟩ := hy.shape
        refine (VFact.mk (hp.le.trans hM) ?_)
        refine J _ _ [0, 1, 2, 3, 4, 5, 6, 7, 8, 10, 11, 12, 13, 14, 17] _ (hSt true true true false true false false true false { s with M := M3, a1 := a, k1 := k } m f) rfl (Wk.mk' (id) (by repeat' constructor) (by repeat' constructor) (injOK_id _) rfl rfl rfl) ?_
        intro m2
        exact n111010010 _ m2 _ (hp.sc1 hM hy)
      · refine VBoth.mk ?_ ?_
        · refine (VFact.mk hp.le ?_)
          refine J _ _ [0, 1, 2, 4, 5, 6, 7, 8, 10, 11, 12, 13, 14, 16, 17] _ (hSt true false true false true false true true false s m f) rfl (Wk.mk' (fun i => if i = 93 then 100 else i) (by repeat' constructor) (by repeat' constructor) (by simp [injOK, hSt, hOw, ifc]) rfl rfl rfl) ?_
          intro m2
          exact n101010110 _ m2 _ hp
        · refine (VFact.mk hp.le ?_)
          refine J _ _ [0, 1, 2, 4, 5, 6, 7, 8, 10, 11, 12, 13, 14, 17, 18] _ (hSt true false true false true false false true true s m f) rfl (Wk.mk' (fun i => if i = 95 then 100 else i) (by repeat' constructor) (by repeat' constructor) (by simp [injOK, hSt, hOw, ifc]) rfl rfl rfl) ?_
          intro m2
          exact n101010011 _ m2 _ hp
    have n101010001 : ∀ (s : HD) (m f : Mem), HP true false true false true false M2 s → T 8 [0, 1, 2, 4, 5, 6, 7, 8, 10, 11, 12, 13, 14, 18] (hSt true false true false true false false false true s m f) := by
      clear n111110000 n111100100 n111100010 n111100001 n111010100 n111010010 n111000110 n111000101 n111000011 n110010110 n110010101 n110010011 n110000111 n101010110 n101000111 n100010111 n001010111 n111100000 n111010000 n111000100 n111000010 n111000001 n110010100 n110010010 n110010001 n110000110 n110000101 n110000011 n101010100 n101010010
      intro s m f hp
      refine H _ _ _ ?_
      refine VBoth.mk ?_ ?_
      · refine (VOwn.frz ?_)
        refine (VFn.mk _ (row_fn 10 s.x1 [spA, spC] s.M (hp.p1 rfl) (i64_of (by decide)) (by decide) (by decide)) ?_)
        rintro rs M3 hM ⟨y, rfl, _, hy⟩
        obtain ⟨a, k, rfl⟩ := hy.shape
        refine (VFact.mk (hp.le.trans hM) ?_)
        refine J _ _ [0, 1, 2, 3, 4, 5, 6, 7, 8, 10, 11, 12, 13, 14, 18] _ (hSt true true true false true false false false true { s with M := M3, a1 := a, k1 := k } m f) rfl (Wk.mk' (id) (by repeat' constructor) (by repeat' constructor) (injOK_id _) rfl rfl rfl) ?_
        intro m2
        exact n111010001 _ m2 _ (hp.sc1 hM hy)
      · refine VBoth.mk ?_ ?_
        · refine (VFact.mk hp.le ?_)
          refine J _ _ [0, 1, 2, 4, 5, 6, 7, 8, 10, 11, 12, 13, 14, 16, 18] _ (hSt true false true false true false true false true s m f) rfl (Wk.mk' (fun i => if i = 93 then 100 else i) (by repeat' constructor) (by repeat' constructor) (by simp [injOK, hSt, hOw, ifc]) rfl rfl rfl) ?_
          intro m2
          exact n101010101 _ m2 _ hp
        · refine (VFact.mk hp.le ?_)
          refine J _ _ [0, 1, 2, 4, 5, 6, 7, 8, 10, 11, 12, 13, 14, 17, 18] _ (hSt true false true false true false false true true s m f) rfl (Wk.mk' (fun i => if i = 94 then 100 else i) (by repeat' constructor) (by repeat' constructor) (by simp [injOK, hSt, hOw, ifc]) rfl rfl rfl) ?_
          intro m2
          exact n101010011 _ m2 _ hp
    have n101000110 : ∀ (s : HD) (m f : Mem), HP true false true false false false M2 s → T 8 [0, 1, 2, 4, 5, 6, 7, 8, 10, 11, 12, 13, 16, 17] (hSt true false true false false false true true false s m f) := by
      clear n111110000 n111100100 n111100010 n111100001 n111010100 n111010010 n111010001 n111000101 n111000011 n110010110 n110010101 n110010011 n110000111 n101010101 n101010011 n100010111 n001010111 n111100000 n111010000 n111000100 n111000010 n111000001 n110010100 n110010010 n110010001 n110000110 n110000101 n110000011 n101010100 n101010010 n101010001
      intro s m f hp
      refine H _ _ _ ?_
      refine VBoth.mk ?_ ?_
      · refine (VOwn.frz ?_)
        refine (VFn.mk _ (row_fn 10 s.x1 [spA, spC] s.M (hp.p1 rfl) (i64_of (by decide)) (by decide) (by decide)) ?_)
        rintro rs M3 hM ⟨y, rfl, _, hy⟩
        obtain ⟨a, k, rfl⟩ := hy.shape
        refine (VFact.mk (hp.le.trans hM) ?_)
        refine J _ _ [0, 1, 2, 3, 4, 5, 6, 7, 8, 10, 11, 12, 13, 16, 17] _ (hSt true true true false false false true true false { s with M := M3, a1 := a, k1 := k } m f) rfl (Wk.mk' (id) (by repeat' constructor) (by repeat' constructor) (injOK_id _) rfl rfl rfl) ?_
        intro m2
        exact n111000110 _ m2 _ (hp.sc1 hM hy)
      · refine VBoth.mk ?_ ?_
        · refine (VFact.mk hp.le ?_)
          refine Z _ _ _ [37] ?_
          refine (VFz.mk fun x _ M3 hM hx => ?_)
          refine (VFact.mk (hp.le.trans hM) ?_)
          refine J _ _ [0, 1, 2, 4, 5, 6, 7, 8, 10, 11, 12, 13, 14, 16, 17] _ (hSt true false true false true false true true false { s with M := M3, x3 := x } m f) rfl (Wk.mk' (id) (by repeat' constructor) (by repeat' constructor) (injOK_id _) rfl rfl rfl) ?_
          intro m2
          exact n101010110 _ m2 _ (hp.sb3 hM hx)
        · refine (VFact.mk hp.le ?_)
          refine J _ _ [0, 1, 2, 4, 5, 6, 7, 8, 10, 11, 12, 13, 16, 17, 18] _ (hSt true false true false false false true true true s m f) rfl (Wk.mk' (fun i => if i = 95 then 100 else i) (by repeat' constructor) (by repeat' constructor) (by simp [injOK, hSt, hOw, ifc]) rfl rfl rfl) ?_
          intro m2
          exact n101000111 _ m2 _ hp
    have n101000101 : ∀ (s : HD) (m f : Mem), HP true false true false false false M2 s → T 8 [0, 1, 2, 4, 5, 6, 7, 8, 10, 11, 12, 13, 16, 18] (hSt true false true false false false true false true s m f) := by
      clear n111110000 n111100100 n111100010 n111100001 n111010100 n111010010 n111010001 n111000110 n111000011 n110010110 n110010101 n110010011 n110000111 n101010110 n101010011 n100010111 n001010111 n111100000 n111010000 n111000100 n111000010 n111000001 n110010100 n110010010 n110010001 n110000110 n110000101 n110000011 n101010100 n101010010 n101010001 n101000110
      intro s m f hp
      refine H _ _ _ ?_
      refine VBoth.mk ?_ ?_
      · refine (VOwn.frz ?_)
        refine (VFn.mk _ (row_fn 10 s.x1 [spA, spC] s.M (hp.p1 rfl) (i64_of (by decide)) (by decide) (by decide)) ?_)
        rintro rs M3 hM ⟨y, rfl, _, hy⟩
        obtain ⟨a, k, rfl⟩ := hy.shape
        refine (VFact.mk (hp.le.trans hM) ?_)
        refine J _ _ [0, 1, 2, 3, 4, 5, 6, 7, 8, 10, 11, 12, 13, 16, 18] _ (hSt true true true false false false true false true { s with M := M3, a1 := a, k1 := k } m f) rfl (Wk.mk' (id) (by repeat' constructor) (by repeat' constructor) (injOK_id _) rfl rfl rfl) ?_
        intro m2
        exact n111000101 _ m2 _ (hp.sc1 hM hy)
      · refine VBoth.mk ?_ ?_
        · refine (VFact.mk hp.le ?_)
          refine Z _ _ _ [37] ?_
          refine (VFz.mk fun x _ M3 hM hx => ?_)
          refine (VFact.mk (hp.le.trans hM) ?_)
          refine J _ _ [0, 1, 2, 4, 5, 6, 7, 8, 10, 11, 12, 13, 14, 16, 18] _ (hSt true false true false true false true false true { s with M := M3, x3 := x } m f) rfl (Wk.mk' (id) (by repeat' constructor) (by repeat' constructor) (injOK_id _) rfl rfl rfl) ?_
          intro m2
          exact n101010101 _ m2 _ (hp.sb3 hM hx)
        · refine (VFact.mk hp.le ?_)
          refine J _ _ [0, 1, 2, 4, 5, 6, 7, 8, 10, 11, 12, 13, 16, 17, 18] _ (hSt true false true false false false true true true s m f) rfl (Wk.mk' (fun i => if i = 94 then 100 else i) (by repeat' constructor) (by repeat' constructor) (by simp [injOK, hSt, hOw, ifc]) rfl rfl rfl) ?_
          intro m2
          exact n101000111 _ m2 _ hp
    have n101000011 : ∀ (s : HD) (m f : Mem), HP true false true false false false M2 s → T 8 [0, 1, 2, 4, 5, 6, 7, 8, 10, 11, 12, 13, 17, 18] (hSt true false true false false false false true true s m f) := by
      clear n111110000 n111100100 n111100010 n111100001 n111010100 n111010010 n111010001 n111000110 n111000101 n110010110 n110010101 n110010011 n110000111 n101010110 n101010101 n100010111 n001010111 n111100000 n111010000 n111000100 n111000010 n111000001 n110010100 n110010010 n110010001 n110000110 n110000101 n110000011 n101010100 n101010010 n101010001 n101000110 n101000101
      intro s m f hp
      refine H _ _ _ ?_
      refine VBoth.mk ?_ ?_
      · refine (VOwn.frz ?_)
        refine (VFn.mk _ (row_fn 10 s.x1 [spA, spC] s.M (hp.p1 rfl) (i64_of (by decide)) (by decide) (by decide)) ?_)
        rintro rs M3 hM ⟨y, rfl, _, hy⟩
        obtain ⟨a, k, rfl⟩ := hy.shape
        refine (VFact.mk (hp.le.trans hM) ?_)
        refine J _ _ [0, 1, 2, 3, 4, 5, 6, 7, 8, 10, 11, 12, 13, 17, 18] _ (hSt true true true false false false false true true { s with M := M3, a1 := a, k1 := k } m f) rfl (Wk.mk' (id) (by repeat' constructor) (by repeat' constructor) (injOK_id _) rfl rfl rfl) ?_
        intro m2
        exact n111000011 _ m2 _ (hp.sc1 hM hy)
      · refine VBoth.mk ?_ ?_
        · refine (VFact.mk hp.le ?_)
          refine Z _ _ _ [37] ?_
          refine (VFz.mk fun x _ M3 hM hx => ?_)
          refine (VFact.mk (hp.le.trans hM) ?_)
          refine J _ _ [0, 1, 2, 4, 5, 6, 7, 8, 10, 11, 12, 13, 14, 17, 18] _ (hSt true false true false true false false true true { s with M := M3, x3 := x } m f) rfl (Wk.mk' (id) (by repeat' constructor) (by repeat' constructor) (injOK_id _) rfl rfl rfl) ?_
          intro m2
          exact n101010011 _ m2 _ (hp.sb3 hM hx)
        · refine (VFact.mk hp.le ?_)
          refine J _ _ [0, 1, 2, 4, 5, 6, 7, 8, 10, 11, 12, 13, 16, 17, 18] _ (hSt true false true false false false true true true s m f) rfl (Wk.mk' (fun i => if i = 93 then 100 else i) (by repeat' constructor) (by repeat' constructor) (by simp [injOK, hSt, hOw, ifc]) rfl rfl rfl) ?_
          intro m2
          exact n101000111 _ m2 _ hp
    have n100010110 : ∀ (s : HD) (m f : Mem), HP true false false false true false M2 s → T 8 [0, 1, 2, 4, 5, 6, 7, 10, 11, 12, 13, 14, 16, 17] (hSt true false false false true false true true false s m f) := by
      clear n111110000 n111100100 n111100010 n111100001 n111010100 n111010010 n111010001 n111000110 n111000101 n111000011 n110010101 n110010011 n110000111 n101010101 n101010011 n101000111 n001010111 n111100000 n111010000 n111000100 n111000010 n111000001 n110010100 n110010010 n110010001 n110000110 n110000101 n110000011 n101010100 n101010010 n101010001 n101000110 n101000101 n101000011
      intro s m f hp
      refine H _ _ _ ?_
      refine VBoth.mk ?_ ?_
      · refine (VOwn.frz ?_)
        refine (VFn.mk _ (row_fn 10 s.x1 [spA, spC] s.M (hp.p1 rfl) (i64_of (by decide)) (by decide) (by decide)) ?_)
        rintro rs M3 hM ⟨y, rfl, _, hy⟩
        obtain ⟨a, k, rfl⟩ := hy.shape
        refine (VFact.mk (hp.le.trans hM) ?_)
        refine J _ _ [0, 1, 2, 3, 4, 5, 6, 7, 10, 11, 12, 13, 14, 16, 17] _ (hSt true true false false true false true true false { s with M := M3, a1 := a, k1 := k } m f) rfl (Wk.mk' (id) (by repeat' constructor) (by repeat' constructor) (injOK_id _) rfl rfl rfl) ?_
        intro m2
        exact n110010110 _ m2 _ (hp.sc1 hM hy)
      · refine VBoth.mk ?_ ?_
        · refine (VFact.mk hp.le ?_)
          refine Z _ _ _ [31] ?_
          refine (VFz.mk fun x _ M3 hM hx => ?_)
          refine (VFact.mk (hp.le.trans hM) ?_)
          refine J _ _ [0, 1, 2, 4, 5, 6, 7, 8, 10, 11, 12, 13, 14, 16, 17] _ (hSt true false true false true false true true false { s with M := M3, x2 := x } m f) rfl (Wk.mk' (id) (by repeat' constructor) (by repeat' constructor) (injOK_id _) rfl rfl rfl) ?_
          intro m2
          exact n101010110 _ m2 _ (hp.sb2 hM hx)
        · refine (VFact.mk hp.le ?_)
          refine J _ _ [0, 1, 2, 4, 5, 6, 7, 10, 11, 12, 13, 14, 16, 17, 18] _ (hSt true false false false true false true true true s m f) rfl (Wk.mk' (fun i => if i = 95 then 100 else i) (by repeat' constructor) (by repeat' constructor) (by simp [injOK, hSt, hOw, ifc]) rfl rfl rfl) ?_
          intro m2
          exact n100010111 _ m2 _ hp
    have n100010101 : ∀ (s : HD) (m f : Mem), HP true false false false true false M2 s → T 8 [0, 1, 2, 4, 5, 6, 7, 10, 11, 12, 13, 14, 16, 18] (hSt true false false false true false true false true s m f) := by
      clear n111110000 n111100100 n111100010 n111100001 n111010100 n111010010 n111010001 n111000110 n111000101 n111000011 n110010110 n110010011 n110000111 n101010110 n101010011 n101000111 n001010111 n111100000 n111010000 n111000100 n111000010 n111000001 n110010100 n110010010 n110010001 n110000110 n110000101 n110000011 n101010100 n101010010 n101010001 n101000110 n101000101 n101000011 n100010110
      intro s m f hp
      refine H _ _ _ ?_
      refine VBoth.mk ?_ ?_
      · refine (VOwn.frz ?_)
        refine (VFn.mk _ (row_fn 10 s.x1 [spA, spC] s.M (hp.p1 rfl) (i64_of (by decide)) (by decide) (by decide)) ?_)
        rintro rs M3 hM ⟨y, rfl, _, hy⟩
        obtain ⟨a, k, rfl⟩ := hy.shape
        refine (VFact.mk (hp.le.trans hM) ?_)
        refine J _ _ [0, 1, 2, 3, 4, 5, 6, 7, 10, 11, 12, 13, 14, 16, 18] _ (hSt true true false false true false true false true { s with M := M3, a1 := a, k1 := k } m f) rfl (Wk.mk' (id) (by repeat' constructor) (by repeat' constructor) (injOK_id _) rfl rfl rfl) ?_
        intro m2
        exact n110010101 _ m2 _ (hp.sc1 hM hy)
      · refine VBoth.mk ?_ ?_
        · refine (VFact.mk hp.le ?_)
          refine Z _ _ _ [31] ?_
          refine (VFz.mk fun x _ M3 hM hx => ?_)
          refine (VFact.mk (hp.le.trans hM) ?_)
          refine J _ _ [0, 1, 2, 4, 5, 6, 7, 8, 10, 11, 12, 13, 14, 16, 18] _ (hSt true false true false true false true false true { s with M := M3, x2 := x } m f) rfl (Wk.mk' (id) (by repeat' constructor) (by repeat' constructor) (injOK_id _) rfl rfl rfl) ?_
          intro m2
          exact n101010101 _ m2 _ (hp.sb2 hM hx)
        · refine (VFact.mk hp.le ?_)
          refine J _ _ [0, 1, 2, 4, 5, 6, 7, 10, 11, 12, 13, 14, 16, 17, 18] _ (hSt true false false false true false true true true s m f) rfl (Wk.mk' (fun i => if i = 94 then 100 else i) (by repeat' constructor) (by repeat' constructor) (by simp [injOK, hSt, hOw, ifc]) rfl rfl rfl) ?_
          intro m2
          exact n100010111 _ m2 _ hp
    have n100010011 : ∀ (s : HD) (m f : Mem), HP true false false false true false M2 s → T 8 [0, 1, 2, 4, 5, 6, 7, 10, 11, 12, 13, 14, 17, 18] (hSt true false false false true false false true true s m f) := by
      clear n111110000 n111100100 n111100010 n111100001 n111010100 n111010010 n111010001 n111000110 n111000101 n111000011 n110010110 n110010101 n110000111 n101010110 n101010101 n101000111 n001010111 n111100000 n111010000 n111000100 n111000010 n111000001 n110010100 n110010010 n110010001 n110000110 n110000101 n110000011 n101010100 n101010010 n101010001 n101000110 n101000101 n101000011 n100010110 n100010101
      intro s m f hp
      refine H _ _ _ ?_
      refine VBoth.mk ?_ ?_
      · refine (VOwn.frz ?_)
        refine (VFn.mk _ (row_fn 10 s.x1 [spA, spC] s.M (hp.p1 rfl) (i64_of (by decide)) (by decide) (by decide)) ?_)
        rintro rs M3 hM ⟨y, rfl, _, hy⟩
        obtain ⟨a, k, rfl⟩ := hy.shape
        refine (VFact.mk (hp.le.trans hM) ?_)
        refine J _ _ [0, 1, 2, 3, 4, 5, 6, 7, 10, 11, 12, 13, 14, 17, 18] _ (hSt true true false false true false false true true { s with M := M3, a1 := a, k1 := k } m f) rfl (Wk.mk' (id) (by repeat' constructor) (by repeat' constructor) (injOK_id _) rfl rfl rfl) ?_
        intro m2
        exact n110010011 _ m2 _ (hp.sc1 hM hy)
      · refine VBoth.mk ?_ ?_
        · refine (VFact.mk hp.le ?_)
          refine Z _ _ _ [31] ?_
          refine (VFz.mk fun x _ M3 hM hx => ?_)
          refine (VFact.mk (hp.le.trans hM) ?_)
          refine J _ _ [0, 1, 2, 4, 5, 6, 7, 8, 10, 11, 12, 13, 14, 17, 18] _ (hSt true false true false true false false true true { s with M := M3, x2 := x } m f) rfl (Wk.mk' (id) (by repeat' constructor) (by repeat' constructor) (injOK_id _) rfl rfl rfl) ?_
          intro m2
          exact n101010011 _ m2 _ (hp.sb2 hM hx)
        · refine (VFact.mk hp.le ?_)
          refine J _ _ [0, 1, 2, 4, 5, 6, 7, 10, 11, 12, 13, 14, 16, 17, 18] _ (hSt true false false false true false true true true s m f) rfl (Wk.mk' (fun i => if i = 93 then 100 else i) (by repeat' constructor) (by repeat' constructor) (by simp [injOK, hSt, hOw, ifc]) rfl rfl rfl) ?_
          intro m2
          exact n100010111 _ m2 _ hp
    have n100000111 : ∀ (s : HD) (m f : Mem), HP true false false false false false M2 s → T 8 [0, 1, 2, 4, 5, 6, 7, 10, 11, 12, 13, 16, 17, 18] (hSt true false false false false false true true true s m f) := by
      clear n111110000 n111100100 n111100010 n111100001 n111010100 n111010010 n111010001 n111000110 n111000101 n111000011 n110010110 n110010101 n110010011 n101010110 n101010101 n101010011 n001010111 n111100000 n111010000 n111000100 n111000010 n111000001 n110010100 n110010010 n110010001 n110000110 n110000101 n110000011 n101010100 n101010010 n101010001 n101000110 n101000101 n101000011 n100010110 n100010101 n100010011
      intro s m f hp
      refine H _ _ _ ?_
      refine VBoth.mk ?_ ?_
      · refine (VOwn.frz ?_)
        refine (VFn.mk _ (row_fn 10 s.x1 [spA, spC] s.M (hp.p1 rfl) (i64_of (by decide)) (by decide) (by decide)) ?_)
        rintro rs M3 hM ⟨y, rfl, _, hy⟩
        obtain ⟨a, k, rfl⟩ := hy.shape
        refine (VFact.mk (hp.le.trans hM) ?_)
        refine J _ _ [0, 1, 2, 3, 4, 5, 6, 7, 10, 11, 12, 13, 16, 17, 18] _ (hSt true true false false false false true true true { s with M := M3, a1 := a, k1 := k } m f) rfl (Wk.mk' (id) (by repeat' constructor) (by repeat' constructor) (injOK_id _) rfl rfl rfl) ?_
        intro m2
        exact n110000111 _ m2 _ (hp.sc1 hM hy)
      · refine VBoth.mk ?_ ?_
        · refine (VFact.mk hp.le ?_)
          refine Z _ _ _ [31] ?_
          refine (VFz.mk fun x _ M3 hM hx => ?_)
          refine (VFact.mk (hp.le.trans hM) ?_)
          refine J _ _ [0, 1, 2, 4, 5, 6, 7, 8, 10, 11, 12, 13, 16, 17, 18] _ (hSt true false true false false false true true true { s with M := M3, x2 := x } m f) rfl (Wk.mk' (id) (by repeat' constructor) (by repeat' constructor) (injOK_id _) rfl rfl rfl) ?_
          intro m2
          exact n101000111 _ m2 _ (hp.sb2 hM hx)
        · refine (VFact.mk hp.le ?_)
          refine Z _ _ _ [37] ?_
          refine (VFz.mk fun x _ M3 hM hx => ?_)
          refine (VFact.mk (hp.le.trans hM) ?_)
          refine J _ _ [0, 1, 2, 4, 5, 6, 7, 10, 11, 12, 13, 14, 16, 17, 18] _ (hSt true false false false true false true true true { s with M := M3, x3 := x } m f) rfl (Wk.mk' (id) (by repeat' constructor) (by repeat' constructor) (injOK_id _) rfl rfl rfl) ?_
          intro m2
          exact n100010111 _ m2 _ (hp.sb3 hM hx)
    have n001010110 : ∀ (s : HD) (m f : Mem), HP false false true false true false M2 s → T 8 [0, 1, 4, 5, 6, 7, 8, 10, 11, 12, 13, 14, 16, 17] (hSt false false true false true false true true false s m f) := by
      clear n111110000 n111100100 n111100010 n111100001 n111010100 n111010010 n111010001 n111000110 n111000101 n111000011 n110010110 n110010101 n110010011 n110000111 n101010101 n101010011 n101000111 n100010111 n111100000 n111010000 n111000100 n111000010 n111000001 n110010100 n110010010 n110010001 n110000110 n110000101 n110000011 n101010100 n101010010 n101010001 n101000110 n101000101 n101000011 n100010110 n100010101 n100010011 n100000111
      intro s m f hp
      refine H _ _ _ ?_
      refine VBoth.mk ?_ ?_
      · refine (VFact.mk hp.le ?_)
        refine Z _ _ _ [25] ?_
        refine (VFz.mk fun x _ M3 hM hx => ?_)
        refine (VFact.mk (hp.le.trans hM) ?_)
        refine J _ _ [0, 1, 2, 4, 5, 6, 7, 8, 10, 11, 12, 13, 14, 16, 17] _ (hSt true false true false true false true true false { s with M := M3, x1 := x } m f) rfl (Wk.mk' (id) (by repeat' constructor) (by repeat' constructor) (injOK_id _) rfl rfl rfl) ?_
        intro m2
        exact n101010110 _ m2 _ (hp.sb1 hM hx)
      · refine (VFact.mk hp.le ?_)
        refine J _ _ [0, 1, 4, 5, 6, 7, 8, 10, 11, 12, 13, 14, 16, 17, 18] _ (hSt false false true false true false true true true s m f) rfl (Wk.mk' (fun i => if i = 95 then 100 else i) (by repeat' constructor) (by repeat' constructor) (by simp [injOK, hSt, hOw, ifc]) rfl rfl rfl) ?_
        intro m2
        exact n001010111 _ m2 _ hp
    have n001010101 : ∀ (s : HD) (m f : Mem), HP false false true false true false M2 s → T 8 [0, 1, 4, 5, 6, 7, 8, 10, 11, 12, 13, 14, 16, 18] (hSt false false true false true false true false true s m f) := by
      clear n111110000 n111100100 n111100010 n111100001 n111010100 n111010010 n111010001 n111000110 n111000101 n111000011 n110010110 n110010101 n110010011 n110000111 n101010110 n101010011 n101000111 n100010111 n111100000 n111010000 n111000100 n111000010 n111000001 n110010100 n110010010 n110010001 n110000110 n110000101 n110000011 n101010100 n101010010 n101010001 n101000110 n101000101 n101000011 n100010110 n100010101 n100010011 n100000111 n001010110
      intro s m f hp
      refine H _ _ _ ?_
      refine VBoth.mk ?_ ?_
      · refine (VFact.mk hp.le ?_)
        refine Z _ _ _ [25] ?_
        refine (VFz.mk fun x _ M3 hM hx => ?_)
        refine (VFact.mk (hp.le.trans hM) ?_)
        refine J _ _ [0, 1, 2, 4, 5, 6, 7, 8, 10, 11, 12, 13, 14, 16, 18] _ (hSt true false true false true false true false true { s with M := M3, x1 := x } m f) rfl (Wk.mk' (id) (by repeat' constructor) (by repeat' constructor) (injOK_id _) rfl rfl rfl) ?_
        intro m2
        exact n101010101 _ m2 _ (hp.sb1 hM hx)
      · refine (VFact.mk hp.le ?_)
        refine J _ _ [0, 1, 4, 5, 6, 7, 8, 10, 11, 12, 13, 14, 16, 17, 18] _ (hSt false false true false true false true true true s m f) rfl (Wk.mk' (fun i => if i = 94 then 100 else i) (by repeat' constructor) (by repeat' constructor) (by simp [injOK, hSt, hOw, ifc]) rfl rfl rfl) ?_
        intro m2
        exact n001010111 _ m2 _ hp
    have n001010011 : ∀ (s : HD) (m f : Mem), HP false false true false true false M2 s → T 8 [0, 1, 4, 5, 6, 7, 8, 10, 11, 12, 13, 14, 17, 18] (hSt false false true false true false false true true s m f) := by
      clear n111110000 n111100100 n111100010 n111100001 n111010100 n111010010 n111010001 n111000110 n111000101 n111000011 n110010110 n110010101 n110010011 n110000111 n101010110 n101010101 n101000111 n100010111 n111100000 n111010000 n111000100 n111000010 n111000001 n110010100 n110010010 n110010001 n110000110 n110000101 n110000011 n101010100 n101010010 n101010001 n101000110 n101000101 n101000011 n100010110 n100010101 n100010011 n100000111 n001010110 n001010101
      intro s m f hp
      refine H _ _ _ ?_
      refine VBoth.mk ?_ ?_
      · refine (VFact.mk hp.le ?_)
        refine Z _ _ _ [25] ?_
        refine (VFz.mk fun x _ M3 hM hx => ?_)
        refine (VFact.mk (hp.le.trans hM) ?_)
        refine J _ _ [0, 1, 2, 4, 5, 6, 7, 8, 10, 11, 12, 13, 14, 17, 18] _ (hSt true false true false true false false true true { s with M := M3, x1 := x } m f) rfl (Wk.mk' (id) (by repeat' constructor) (by repeat' constructor) (injOK_id _) rfl rfl rfl) ?_
        intro m2
        exact n101010011 _ m2 _ (hp.sb1 hM hx)
      · refine (VFact.mk hp.le ?_)
        refine J _ _ [0, 1, 4, 5, 6, 7, 8, 10, 11, 12, 13, 14, 16, 17, 18] _ (hSt false false true false true false true true true s m f) rfl (Wk.mk' (fun i => if i = 93 then 100 else i) (by repeat' constructor) (by repeat' constructor) (by simp [injOK, hSt, hOw, ifc]) rfl rfl rfl) ?_
        intro m2
        exact n001010111 _ m2 _ hp
    have n001000111 : ∀ (s : HD) (m f : Mem), HP false false true false false false M2 s → T 8 [0, 1, 4, 5, 6, 7, 8, 10, 11, 12, 13, 16, 17, 18] (hSt false false true false false false true true true s m f) := by
      clear n111110000 n111100100 n111100010 n111100001 n111010100 n111010010 n111010001 n111000110 n111000101 n111000011 n110010110 n110010101 n110010011 n110000111 n101010110 n101010101 n101010011 n100010111 n111100000 n111010000 n111000100 n111000010 n111000001 n110010100 n110010010 n110010001 n110000110 n110000101 n110000011 n101010100 n101010010 n101010001 n101000110 n101000101 n101000011 n100010110 n100010101 n100010011 n100000111 n001010110 n001010101 n001010011
      intro s m f hp
      refine H _ _ _ ?_
      refine VBoth.mk ?_ ?_
      · refine (VFact.mk hp.le ?_)
        refine Z _ _ _ [25] ?_
        refine (VFz.mk fun x _ M3 hM hx => ?_)
        refine (VFact.mk (hp.le.trans hM) ?_)
        refine J _ _ [0, 1, 2, 4, 5, 6, 7, 8, 10, 11, 12, 13, 16, 17, 18] _ (hSt true false true false false false true true true { s with M := M3, x1 := x } m f) rfl (Wk.mk' (id) (by repeat' constructor) (by repeat' constructor) (injOK_id _) rfl rfl rfl) ?_
        intro m2
        exact n101000111 _ m2 _ (hp.sb1 hM hx)
      · refine (VFact.mk hp.le ?_)
        refine Z _ _ _ [37] ?_
        refine (VFz.mk fun x _ M3 hM hx => ?_)
        refine (VFact.mk (hp.le.trans hM) ?_)
        refine J _ _ [0, 1, 4, 5, 6, 7, 8, 10, 11, 12, 13, 14, 16, 17, 18] _ (hSt false false true false true false true true true { s with M := M3, x3 := x } m f) rfl (Wk.mk' (id) (by repeat' constructor) (by repeat' constructor) (injOK_id _) rfl rfl rfl) ?_
        intro m2
        exact n001010111 _ m2 _ (hp.sb3 hM hx)
    have n000010111 : ∀ (s : HD) (m f : Mem), HP false false false false true false M2 s → T 8 [0, 1, 4, 5, 6, 7, 10, 11, 12, 13, 14, 16, 17, 18] (hSt false false false false true false true true true s m f) := by
      clear n111110000 n111100100 n111100010 n111100001 n111010100 n111010010 n111010001 n111000110 n111000101 n111000011 n110010110 n110010101 n110010011 n110000111 n101010110 n101010101 n101010011 n101000111 n111100000 n111010000 n111000100 n111000010 n111000001 n110010100 n110010010 n110010001 n110000110 n110000101 n110000011 n101010100 n101010010 n101010001 n101000110 n101000101 n101000011 n100010110 n100010101 n100010011 n100000111 n001010110 n001010101 n001010011 n001000111
      intro s m f hp
      refine H _ _ _ ?_
      refine VBoth.mk ?_ ?_
      · refine (VFact.mk hp.le ?_)
        refine Z _ _ _ [25] ?_
        refine (VFz.mk fun x _ M3 hM hx => ?_)
        refine (VFact.mk (hp.le.trans hM) ?_)
        refine J _ _ [0, 1, 2, 4, 5, 6, 7, 10, 11, 12, 13, 14, 16, 17, 18] _ (hSt true false false false true false true true true { s with M := M3, x1 := x } m f) rfl (Wk.mk' (id) (by repeat' constructor) (by repeat' constructor) (injOK_id _) rfl rfl rfl) ?_
        intro m2
        exact n100010111 _ m2 _ (hp.sb1 hM hx)
      · refine (VFact.mk hp.le ?_)
        refine Z _ _ _ [31] ?_
        refine (VFz.mk fun x _ M3 hM hx => ?_)
        refine (VFact.mk (hp.le.trans hM) ?_)
        refine J _ _ [0, 1, 4, 5, 6, 7, 8, 10, 11, 12, 13, 14, 16, 17, 18] _ (hSt false false true false true false true true true { s with M := M3, x2 := x } m f) rfl (Wk.mk' (id) (by repeat' constructor) (by repeat' constructor) (injOK_id _) rfl rfl rfl) ?_
        intro m2
        exact n001010111 _ m2 _ (hp.sb2 hM hx)
    clear n111110000 n111100100 n111100010 n111100001 n111010100 n111010010 n111010001 n111000110 n111000101 n111000011 n110010110 n110010101 n110010011 n110000111 n101010110 n101010101 n101010011 n101000111 n100010111 n001010111
    have n111000000 : ∀ (s : HD) (m f : Mem), HP true true true false false false M2 s → T 9 [0, 1, 2, 3, 4, 5, 6, 7, 8, 10, 11, 12, 13] (hSt true true true false false false false false false s m f) := by
      clear n110010100 n110010010 n110010001 n110000110 n110000101 n110000011 n101010100 n101010010 n101010001 n101000110 n101000101 n101000011 n100010110 n100010101 n100010011 n100000111 n001010110 n001010101 n001010011 n001000111 n000010111
      intro s m f hp
      refine H _ _ _ ?_
      refine VBoth.mk ?_ ?_
      · refine (VOwn.frz ?_)
        refine (VFn.mk _ (row_fn 5 s.x2 [spA, spA, spC, (0, 300)] s.M (hp.p2 rfl) (i64_of (by decide)) (by decide) (by decide)) ?_)
        rintro rs M3 hM ⟨y, rfl, _, hy⟩
        obtain ⟨a, k, rfl⟩ := hy.shape
        refine (VFact.mk (hp.le.trans hM) ?_)
        refine J _ _ [0, 1, 2, 3, 4, 5, 6, 7, 8, 9, 10, 11, 12, 13] _ (hSt true true true true false false false false false { s with M := M3, a2 := a, k2 := k } m f) rfl (Wk.mk' (id) (by repeat' constructor) (by repeat' constructor) (injOK_id _) rfl rfl rfl) ?_
        intro m2
        exact n111100000 _ m2 _ (hp.sc2 hM hy)
      · refine VBoth.mk ?_ ?_
        · refine (VFact.mk hp.le ?_)
          refine Z _ _ _ [37] ?_
          refine (VFz.mk fun x _ M3 hM hx => ?_)
          refine (VFact.mk (hp.le.trans hM) ?_)
          refine J _ _ [0, 1, 2, 3, 4, 5, 6, 7, 8, 10, 11, 12, 13, 14] _ (hSt true true true false true false false false false { s with M := M3, x3 := x } m f) rfl (Wk.mk' (id) (by repeat' constructor) (by repeat' constructor) (injOK_id _) rfl rfl rfl) ?_
          intro m2
          exact n111010000 _ m2 _ (hp.sb3 hM hx)
        · refine VBoth.mk ?_ ?_
          · refine (VFact.mk hp.le ?_)
            refine J _ _ [0, 1, 2, 3, 4, 5, 6, 7, 8, 10, 11, 12, 13, 16] _ (hSt true true true false false false true false false s m f) rfl (Wk.mk' (fun i => if i = 93 then 100 else i) (by repeat' constructor) (by repeat' constructor) (by simp [injOK, hSt, hOw, ifc]) rfl rfl rfl) ?_
            intro m2
            exact n111000100 _ m2 _ hp
          · refine VBoth.mk ?_ ?_
            · refine (VFact.mk hp.le ?_)
              refine J _ _ [0, 1, 2, 3, 4, 5, 6, 7, 8, 10, 11, 12, 13, 17] _ (hSt true true true false false false false true false s m f) rfl (Wk.mk' (fun i => if i = 94 then 100 else i) (by repeat' constructor) (by repeat' constructor) (by simp [injOK, hSt, hOw, ifc]) rfl rfl rfl) ?_
              intro m2
              exact n111000010 _ m2 _ hp
            · refine (VFact.mk hp.le ?_)
              refine J _ _ [0, 1, 2, 3, 4, 5, 6, 7, 8, 10, 11, 12, 13, 18] _ (hSt true true true false false false false false true s m f) rfl (Wk.mk' (fun i => if i = 95 then 100 else i) (by repeat' constructor) (by repeat' constructor) (by simp [injOK, hSt, hOw, ifc]) rfl rfl rfl) ?_
              intro m2
              exact n111000001 _ m2 _ hp
    have n110010000 : ∀ (s : HD) (m f : Mem), HP true true false false true false M2 s → T 9 [0, 1, 2, 3, 4, 5, 6, 7, 10, 11, 12, 13, 14] (hSt true true false false true false false false false s m f) := by
      clear n111100000 n111000100 n111000010 n111000001 n110000110 n110000101 n110000011 n101010100 n101010010 n101010001 n101000110 n101000101 n101000011 n100010110 n100010101 n100010011 n100000111 n001010110 n001010101 n001010011 n001000111 n000010111 n111000000
      intro s m f hp
      refine H _ _ _ ?_
      refine VBoth.mk ?_ ?_
      · refine (VFact.mk hp.le ?_)
        refine Z _ _ _ [31] ?_
        refine (VFz.mk fun x _ M3 hM hx => ?_)
        refine (VFact.mk (hp.le.trans hM) ?_)
        refine J _ _ [0, 1, 2, 3, 4, 5, 6, 7, 8, 10, 11, 12, 13, 14] _ (hSt true true true false true false false false false { s with M := M3, x2 := x } m f) rfl (Wk.mk' (id) (by repeat' constructor) (by repeat' constructor) (injOK_id _) rfl rfl rfl) ?_
        intro m2
        exact n111010000 _ m2 _ (hp.sb2 hM hx)
      · refine VBoth.mk ?_ ?_
        · refine (VFact.mk hp.le ?_)
          refine J _ _ [0, 1, 2, 3, 4, 5, 6, 7, 10, 11, 12, 13, 14, 16] _ (hSt true true false false true false true false false s m f) rfl (Wk.mk' (fun i => if i = 93 then 100 else i) (by repeat' constructor) (by repeat' constructor) (by simp [injOK, hSt, hOw, ifc]) rfl rfl rfl) ?_
          intro m2
          exact n110010100 _ m2 _ hp
        · refine VBoth.mk ?_ ?_
          · refine (VFact.mk hp.le ?_)
            refine J _ _ [0, 1, 2, 3, 4, 5, 6, 7, 10, 11, 12, 13, 14, 17] _ (hSt true true false false true false false true false s m f) rfl (Wk.mk' (fun i => if i = 94 then 100 else i) (by repeat' constructor) (by repeat' constructor) (by simp [injOK, hSt, hOw, ifc]) rfl rfl rfl) ?_
            intro m2
            exact n110010010 _ m2 _ hp
          · refine (VFact.mk hp.le ?_)
            refine J _ _ [0, 1, 2, 3, 4, 5, 6, 7, 10, 11, 12, 13, 14, 18] _ (hSt true true false false true false false false true s m f) rfl (Wk.mk' (fun i => if i = 95 then 100 else i) (by repeat' constructor) (by repeat' constructor) (by simp [injOK, hSt, hOw, ifc]) rfl rfl rfl) ?_
            intro m2
            exact n110010001 _ m2 _ hp
    have n110000100 : ∀ (s : HD) (m f : Mem), HP true true false false false false M2 s → T 9 [0, 1, 2, 3, 4, 5, 6, 7, 10, 11, 12, 13, 16] (hSt true true false false false false true false false s m f) := by
      clear n111100000 n111010000 n111000010 n111000001 n110010010 n110010001 n110000011 n101010100 n101010010 n101010001 n101000110 n101000101 n101000011 n100010110 n100010101 n100010011 n100000111 n001010110 n001010101 n001010011 n001000111 n000010111 n111000000 n110010000
      intro s m f hp
      refine H _ _ _ ?_
      refine VBoth.mk ?_ ?_
      · refine (VFact.mk hp.le ?_)
        refine Z _ _ _ [31] ?_
        refine (VFz.mk fun x _ M3 hM hx => ?_)
        refine (VFact.mk (hp.le.trans hM) ?_)
        refine J _ _ [0, 1, 2, 3, 4, 5, 6, 7, 8, 10, 11, 12, 13, 16] _ (hSt true true true false false false true false false { s with M := M3, x2 := x } m f) rfl (Wk.mk' (id) (by repeat' constructor) (by repeat' constructor) (injOK_id _) rfl rfl rfl) ?_
        intro m2
        exact n111000100 _ m2 _ (hp.sb2 hM hx)
      · refine VBoth.mk ?_ ?_
        · refine (VFact.mk hp.le ?_)
          refine Z _ _ _ [37] ?_
          refine (VFz.mk fun x _ M3 hM hx => ?_)
          refine (VFact.mk (hp.le.trans hM) ?_)
          refine J _ _ [0, 1, 2, 3, 4, 5, 6, 7, 10, 11, 12, 13, 14, 16] _ (hSt true true false false true false true false false { s with M := M3, x3 := x } m f) rfl (Wk.mk' (id) (by repeat' constructor) (by repeat' constructor) (injOK_id _) rfl rfl rfl) ?_
          intro m2
          exact n110010100 _ m2 _ (hp.sb3 hM hx)
        · refine VBoth.mk ?_ ?_
          · refine (VFact.mk hp.le ?_)
            refine J _ _ [0, 1, 2, 3, 4, 5, 6, 7, 10, 11, 12, 13, 16, 17] _ (hSt true true false false false false true true false s m f) rfl (Wk.mk' (fun i => if i = 94 then 100 else i) (by repeat' constructor) (by repeat' constructor) (by simp [injOK, hSt, hOw, ifc]) rfl rfl rfl) ?_
            intro m2
            exact n110000110 _ m2 _ hp
          · refine (VFact.mk hp.le ?_)
            refine J _ _ [0, 1, 2, 3, 4, 5, 6, 7, 10, 11, 12, 13, 16, 18] _ (hSt true true false false false false true false true s m f) rfl (Wk.mk' (fun i => if i = 95 then 100 else i) (by repeat' constructor) (by repeat' constructor) (by simp [injOK, hSt, hOw, ifc]) rfl rfl rfl) ?_
            intro m2
            exact n110000101 _ m2 _ hp
    have n110000010 : ∀ (s : HD) (m f : Mem), HP true true false false false false M2 s → T 9 [0, 1, 2, 3, 4, 5, 6, 7, 10, 11, 12, 13, 17] (hSt true true false false false false false true false s m f) := by
      clear n111100000 n111010000 n111000100 n111000001 n110010100 n110010001 n110000101 n101010100 n101010010 n101010001 n101000110 n101000101 n101000011 n100010110 n100010101 n100010011 n100000111 n001010110 n001010101 n001010011 n001000111 n000010111 n111000000 n110010000 n110000100
      intro s m f hp
      refine H _ _ _ ?_
      refine VBoth.mk ?_ ?_
      · refine (VFact.mk hp.le ?_)
        refine Z _ _ _ [31] ?_
        refine (VFz.mk fun x _ M3 hM hx => ?_)
        refine (VFact.mk (hp.le.trans hM) ?_)
        refine J _ _ [0, 1, 2, 3, 4, 5, 6, 7, 8, 10, 11, 12, 13, 17] _ (hSt true true true false false false false true false { s with M := M3, x2 := x } m f) rfl (Wk.mk' (id) (by repeat' constructor) (by repeat' constructor) (injOK_id _) rfl rfl rfl) ?_
        intro m2
        exact n111000010 _ m2 _ (hp.sb2 hM hx)
      · refine VBoth.mk ?_ ?_
        · refine (VFact.mk hp.le ?_)
          refine Z _ _ _ [37] ?_
          refine (VFz.mk fun x _ M3 hM hx => ?_)
          refine (VFact.mk (hp.le.trans hM) ?_)
          refine J _ _ [0, 1, 2, 3, 4, 5, 6, 7, 10, 11, 12, 13, 14, 17] _ (hSt true true false false true false false true false { s with M := M3, x3 := x } m f) rfl (Wk.mk' (id) (by repeat' constructor) (by repeat' constructor) (injOK_id _) rfl rfl rfl) ?_
          intro m2
          exact n110010010 _ m2 _ (hp.sb3 hM hx)
        · refine VBoth.mk ?_ ?_
          · refine (VFact.mk hp.le ?_)
            refine J _ _ [0, 1, 2, 3, 4, 5, 6, 7, 10, 11, 12, 13, 16, 17] _ (hSt true true false false false false true true false s m f) rfl (Wk.mk' (fun i => if i = 93 then 100 else i) (by repeat' constructor) (by repeat' constructor) (by simp [injOK, hSt, hOw, ifc]) rfl rfl rfl) ?_
            intro m2
            exact n110000110 _ m2 _ hp
          · refine (VFact.mk hp.le ?_)
            refine J _ _ [0, 1, 2, 3, 4, 5, 6, 7, 10, 11, 12, 13, 17, 18] _ (hSt true true false false false false false true true s m f) rfl (Wk.mk' (fun i => if i = 95 then 100 else i) (by repeat' constructor) (by repeat' constructor) (by simp [injOK, hSt, hOw, ifc]) rfl rfl rfl) ?_
            intro m2
            exact n110000011 _ m2 _ hp
    have n110000001 : ∀ (s : HD) (m f : Mem), HP true true false false false false M2 s → T 9 [0, 1, 2, 3, 4, 5, 6, 7, 10, 11, 12, 13, 18] (hSt true true false false false false false false true s m f) := by
      clear n111100000 n111010000 n111000100 n111000010 n110010100 n110010010 n110000110 n101010100 n101010010 n101010001 n101000110 n101000101 n101000011 n100010110 n100010101 n100010011 n100000111 n001010110 n001010101 n001010011 n001000111 n000010111 n111000000 n110010000 n110000100 n110000010
      intro s m f hp
      refine H _ _ _ ?_
      refine VBoth.mk ?_ ?_
      · refine (VFact.mk hp.le ?_)
        refine Z _ _ _ [31] ?_
        refine (VFz.mk fun x _ M3 hM hx => ?_)
        refine (VFact.mk (hp.le.trans hM) ?_)
        refine J _ _ [0, 1, 2, 3, 4, 5, 6, 7, 8, 10, 11, 12, 13, 18] _ (hSt true true true false false false false false true { s with M := M3, x2 := x } m f) rfl (Wk.mk' (id) (by repeat' constructor) (by repeat' constructor) (injOK_id _) rfl rfl rfl) ?_
        intro m2
        exact n111000001 _ m2 _ (hp.sb2 hM hx)
      · refine VBoth.mk ?_ ?_
        · refine (VFact.mk hp.le ?_)
          refine Z _ _ _ [37] ?_
          refine (VFz.mk fun x _ M3 hM hx => ?_)
          refine (VFact.mk (hp.le.trans hM) ?_)
          refine J _ _ [0, 1, 2, 3, 4, 5, 6, 7, 10, 11, 12, 13, 14, 18] _ (hSt true true false false true false false false true { s with M := M3, x3 := x } m f) rfl (Wk.mk' (id) (by repeat' constructor) (by repeat' constructor) (injOK_id _) rfl rfl rfl) ?_
          intro m2
          exact n110010001 _ m2 _ (hp.sb3 hM hx)
        · refine VBoth.mk ?_ ?_
          · refine (VFact.mk hp.le ?_)
            refine J _ _ [0, 1, 2, 3, 4, 5, 6, 7, 10, 11, 12, 13, 16, 18] _ (hSt true true false false false false true false true s m f) rfl (Wk.mk' (fun i => if i = 93 then 100 else i) (by repeat' constructor) (by repeat' constructor) (by simp [injOK, hSt, hOw, ifc]) rfl rfl rfl) ?_
            intro m2
            exact n110000101 _ m2 _ hp
          · refine (VFact.mk hp.le ?_)
            refine J _ _ [0, 1, 2, 3, 4, 5, 6, 7, 10, 11, 12, 13, 17, 18] _ (hSt true true false false false false false true true s m f) rfl (Wk.mk' (fun i => if i = 94 then 100 else i) (by repeat' constructor) (by repeat' constructor) (by simp [injOK, hSt, hOw, ifc]) rfl rfl rfl) ?_
            intro m2
            exact n110000011 _ m2 _ hp
    have n101010000 : ∀ (s : HD) (m f : Mem), HP true false true false true false M2 s → T 9 [0, 1, 2, 4, 5, 6, 7, 8, 10, 11, 12, 13, 14] (hSt true false true false true false false false false s m f) := by
      clear n111100000 n111000100 n111000010 n111000001 n110010100 n110010010 n110010001 n110000110 n110000101 n110000011 n101000110 n101000101 n101000011 n100010110 n100010101 n100010011 n100000111 n001010110 n001010101 n001010011 n001000111 n000010111 n111000000 n110010000 n110000100 n110000010 n110000001
      intro s m f hp
      refine H _ _ _ ?_
      refine VBoth.mk ?_ ?_
      · refine (VOwn.frz ?_)
        refine (VFn.mk _ (row_fn 10 s.x1 [spA, spC] s.M (hp.p1 rfl) (i64_of (by decide)) (by decide) (by decide)) ?_)
        rintro rs M3 hM ⟨y, rfl, _, hy⟩
        obtain ⟨a, k, rfl⟩ := hy.shape
        refine (VFact.mk (hp.le.trans hM) ?_)
        refine J _ _ [0, 1, 2, 3, 4, 5, 6, 7, 8, 10, 11, 12, 13, 14] _ (hSt true true true false true false false false false { s with M := M3, a1 := a, k1 := k } m f) rfl (Wk.mk' (id) (by repeat' constructor) (by repeat' constructor) (injOK_id _) rfl rfl rfl) ?_
        intro m2
        exact n111010000 _ m2 _ (hp.sc1 hM hy)
      · refine VBoth.mk ?_ ?_
        · refine (VFact.mk hp.le ?_)
          refine J _ _ [0, 1, 2, 4, 5, 6, 7, 8, 10, 11, 12, 13, 14, 16] _ (hSt true false true false true false true false false s m f) rfl (Wk.mk' (fun i => if i = 93 then 100 else i) (by repeat' constructor) (by repeat' constructor) (by simp [injOK, hSt, hOw, ifc]) rfl rfl rfl) ?_
          intro m2
          exact n101010100 _ m2 _ hp
        · refine VBoth.mk ?_ ?_
          · refine (VFact.mk hp.le ?_)
            refine J _ _ [0, 1, 2, 4, 5, 6, 7, 8, 10, 11, 12, 13, 14, 17] _ (hSt true false true false true false false true false s m f) rfl (Wk.mk' (fun i => if i = 94 then 100 else i) (by repeat' constructor) (by repeat' constructor) (by simp [injOK, hSt, hOw, ifc]) rfl rfl rfl) ?_
            intro m2
            exact n101010010 _ m2 _ hp
          · refine (VFact.mk hp.le ?_)
            refine J _ _ [0, 1, 2, 4, 5, 6, 7, 8, 10, 11, 12, 13, 14, 18] _ (hSt true false true false true false false false true s m f) rfl (Wk.mk' (fun i => if i = 95 then 100 else i) (by repeat' constructor) (by repeat' constructor) (by simp [injOK, hSt, hOw, ifc]) rfl rfl rfl) ?_
            intro m2
            exact n101010001 _ m2 _ hp
    have n101000100 : ∀ (s : HD) (m f : Mem), HP true false true false false false M2 s → T 9 [0, 1, 2, 4, 5, 6, 7, 8, 10, 11, 12, 13, 16] (hSt true false true false false false true false false s m f) := by
      clear n111100000 n111010000 n111000010 n111000001 n110010100 n110010010 n110010001 n110000110 n110000101 n110000011 n101010010 n101010001 n101000011 n100010110 n100010101 n100010011 n100000111 n001010110 n001010101 n001010011 n001000111 n000010111 n111000000 n110010000 n110000100 n110000010 n110000001 n101010000
      intro s m f hp
      refine H _ _ _ ?_
      refine VBoth.mk ?_ ?_
      · refine (VOwn.frz ?_)
        refine (VFn.mk _ (row_fn 10 s.x1 [spA, spC] s.M (hp.p1 rfl) (i64_of (by decide)) (by decide) (by decide)) ?_)
        rintro rs M3 hM ⟨y, rfl, _, hy⟩
        obtain ⟨a, k, rfl⟩ := hy.shape
        refine (VFact.mk (hp.le.trans hM) ?_)
        refine J _ _ [0, 1, 2, 3, 4, 5, 6, 7, 8, 10, 11, 12, 13, 16] _ (hSt true true true false false false true false false { s with M := M3, a1 := a, k1 := k } m f) rfl (Wk.mk' (id) (by repeat' constructor) (by repeat' constructor) (injOK_id _) rfl rfl rfl) ?_
        intro m2
        exact n111000100 _ m2 _ (hp.sc1 hM hy)
      · refine VBoth.mk ?_ ?_
        · refine (VFact.mk hp.le ?_)
          refine Z _ _ _ [37] ?_
          refine (VFz.mk fun x _ M3 hM hx => ?_)
          refine (VFact.mk (hp.le.trans hM) ?_)
          refine J _ _ [0, 1, 2, 4, 5, 6, 7, 8, 10, 11, 12, 13, 14, 16] _ (hSt true false true false true false true false false { s with M := M3, x3 := x } m f) rfl (Wk.mk' (id) (by repeat' constructor) (by repeat' constructor) (injOK_id _) rfl rfl rfl) ?_
          intro m2
          exact n101010100 _ m2 _ (hp.sb3 hM hx)
        · refine VBoth.mk ?_ ?_
          · refine (VFact.mk hp.le ?_)
            refine J _ _ [0, 1, 2, 4, 5, 6, 7, 8, 10, 11, 12, 13, 16, 17] _ (hSt true false true false false false true true false s m f) rfl (Wk.mk' (fun i => if i = 94 then 100 else i) (by repeat' constructor) (by repeat' constructor) (by simp [injOK, hSt, hOw, ifc]) rfl rfl rfl) ?_
            intro m2
            exact n101000110 _ m2 _ hp
          · refine (VFact.mk hp.le ?_)
            refine J _ _ [0, 1, 2, 4, 5, 6, 7, 8, 10, 11, 12, 13, 16, 18] _ (hSt true false true false false false true false true s m f) rfl (Wk.mk' (fun i => if i = 95 then 100 else i) (by repeat' constructor) (by repeat' constructor) (by simp [injOK, hSt, hOw, ifc]) rfl rfl rfl) ?_
            intro m2
            exact n101000101 _ m2 _ hp
    have n101000010 : ∀ (s : HD) (m f : Mem), HP true false true false false false M2 s → T 9 [0, 1, 2, 4, 5, 6, 7, 8, 10, 11, 12, 13, 17] (hSt true false true false false false false true false s m f) := by
      clear n111100000 n111010000 n111000100 n111000001 n110010100 n110010010 n110010001 n110000110 n110000101 n110000011 n101010100 n101010001 n101000101 n100010110 n100010101 n100010011 n100000111 n001010110 n001010101 n001010011 n001000111 n000010111 n111000000 n110010000 n110000100 n110000010 n110000001 n101010000 n101000100
      intro s m f hp
      refine H _ _ _ ?_
      refine VBoth.mk ?_ ?_
      · refine (VOwn.frz ?_)
        refine (VFn.mk _ (row_fn 10 s.x1 [spA, spC] s.M (hp.p1 rfl) (i64_of (by decide)) (by decide) (by decide)) ?_)
        rintro rs M3 hM ⟨y, rfl, _, hy⟩
        obtain ⟨a, k, rfl⟩ := hy.shape
        refine (VFact.mk (hp.le.trans hM) ?_)
        refine J _ _ [0, 1, 2, 3, 4, 5, 6, 7, 8, 10, 11, 12, 13, 17] _ (hSt true true true false false false false true false { s with M := M3, a1 := a, k1 := k } m f) rfl (Wk.mk' (id) (by repeat' constructor) (by repeat' constructor) (injOK_id _) rfl rfl rfl) ?_
        intro m2
        exact n111000010 _ m2 _ (hp.sc1 hM hy)
      · refine VBoth.mk ?_ ?_
        · refine (VFact.mk hp.le ?_)
          refine Z _ _ _ [37] ?_
          refine (VFz.mk fun x _ M3 hM hx => ?_)
          refine (VFact.mk (hp.le.trans hM) ?_)
          refine J _ _ [0, 1, 2, 4, 5, 6, 7, 8, 10, 11, 12, 13, 14, 17] _ (hSt true false true false true false false true false { s with M := M3, x3 := x } m f) rfl (Wk.mk' (id) (by repeat' constructor) (by repeat' constructor) (injOK_id _) rfl rfl rfl) ?_
          intro m2
          exact n101010010 _ m2 _ (hp.sb3 hM hx)
        · refine VBoth.mk ?_ ?_
          · refine (VFact.mk hp.le ?_)
            refine J _ _ [0, 1, 2, 4, 5, 6, 7, 8, 10, 11, 12, 13, 16, 17] _ (hSt true false true false false false true true false s m f) rfl (Wk.mk' (fun i => if i = 93 then 100 else i) (by repeat' constructor) (by repeat' constructor) (by simp [injOK, hSt, hOw, ifc]) rfl rfl rfl) ?_
            intro m2
            exact n101000110 _ m2 _ hp
          · refine (VFact.mk hp.le ?_)
            refine J _ _ [0, 1, 2, 4, 5, 6, 7, 8, 10, 11, 12, 13, 17, 18] _ (hSt true false true false false false false true true s m f) rfl (Wk.mk' (fun i => if i = 95 then 100 else i) (by repeat' constructor) (by repeat' constructor) (by simp [injOK, hSt, hOw, ifc]) rfl rfl rfl) ?_
            intro m2
            exact n101000011 _ m2 _ hp
    have n101000001 : ∀ (s : HD) (m f : Mem), HP true false true false false false M2 s → T 9 [0, 1, 2, 4, 5, 6, 7, 8, 10, 11, 12, 13, 18] (hSt true false true false false false false false true s m f) := by
      clear n111100000 n111010000 n111000100 n111000010 n110010100 n110010010 n110010001 n110000110 n110000101 n110000011 n101010100 n101010010 n101000110 n100010110 n100010101 n100010011 n100000111 n001010110 n001010101 n001010011 n001000111 n000010111 n111000000 n110010000 n110000100 n110000010 n110000001 n101010000 n101000100 n101000010
      intro s m f hp
      refine H _ _ _ ?_
      refine VBoth.mk ?_ ?_
      · refine (VOwn.frz ?_)
        refine (VFn.mk _ (row_fn 10 s.x1 [spA, spC] s.M (hp.p1 rfl) (i64_of (by decide)) (by decide) (by decide)) ?_)
        rintro rs M3 hM ⟨y, rfl, _, hy⟩
        obtain ⟨a, k, rfl⟩ := hy.shape
        refine (VFact.mk (hp.le.trans hM) ?_)
        refine J _ _ [0, 1, 2, 3, 4, 5, 6, 7, 8, 10, 11, 12, 13, 18] _ (hSt true true true false false false false false true { s with M := M3, a1 := a, k1 := k } m f) rfl (Wk.mk' (id) (by repeat' constructor) (by repeat' constructor) (injOK_id _) rfl rfl rfl) ?_
        intro m2
        exact n111000001 _ m2 _ (hp.sc1 hM hy)
      · refine VBoth.mk ?_ ?_
        · refine (VFact.mk hp.le ?_)
          refine Z _ _ _ [37] ?_
          refine (VFz.mk fun x _ M3 hM hx => ?_)
          refine (VFact.mk (hp.le.trans hM) ?_)
          refine J _ _ [0, 1, 2, 4, 5, 6, 7, 8, 10, 11, 12, 13, 14, 18] _ (hSt true false true false true false false false true { s with M := M3, x3 := x } m f) rfl (Wk.mk' (id) (by repeat' constructor) (by repeat' constructor) (injOK_id _) rfl rfl rfl) ?_
          intro m2
          exact n101010001 _ m2 _ (hp.sb3 hM hx)
        · refine VBoth.mk ?_ ?_
          · refine (VFact.mk hp.le ?_)
            refine J _ _ [0, 1, 2, 4, 5, 6, 7, 8, 10, 11, 12, 13, 16, 18] _ (hSt true false true false false false true false true s m f) rfl (Wk.mk' (fun i => if i = 93 then 100 else i) (by repeat' constructor) (by repeat' constructor) (by simp [injOK, hSt, hOw, ifc]) rfl rfl rfl) ?_
            intro m2
            exact n101000101 _ m2 _ hp
          · refine (VFact.mk hp.le ?_)
            refine J _ _ [0, 1, 2, 4, 5, 6, 7, 8, 10, 11, 12, 13, 17, 18] _ (hSt true false true false false false false true true s m f) rfl (Wk.mk' (fun i => if i = 94 then 100 else i) (by repeat' constructor) (by repeat' constructor) (by simp [injOK, hSt, hOw, ifc]) rfl rfl rfl) ?_
            intro m2
            exact n101000011 _ m2 _ hp
    have n100010100 : ∀ (s : HD) (m f : Mem), HP true false false false true false M2 s → T 9 [0, 1, 2, 4, 5, 6, 7, 10, 11, 12, 13, 14, 16] (hSt true false false false true false true false false s m f) := by
      clear n111100000 n111010000 n111000100 n111000010 n111000001 n110010010 n110010001 n110000110 n110000101 n110000011 n101010010 n101010001 n101000110 n101000101 n101000011 n100010011 n100000111 n001010110 n001010101 n001010011 n001000111 n000010111 n111000000 n110010000 n110000100 n110000010 n110000001 n101010000 n101000100 n101000010 n101000001
      intro s m f hp
      refine H _ _ _ ?_
      refine VBoth.mk ?_ ?_
      · refine (VOwn.frz ?_)
        refine (VFn.mk _ (row_fn 10 s.x1 [spA, spC] s.M (hp.p1 rfl) (i64_of (by decide)) (by decide) (by decide)) ?_)
        rintro rs M3 hM ⟨y, rfl, _, hy⟩
        obtain ⟨a, k, rfl⟩ := hy.shape
        refine (VFact.mk (hp.le.trans hM) ?_)
        refine J _ _ [0, 1, 2, 3, 4, 5, 6, 7, 10, 11, 12, 13, 14, 16] _ (hSt true true false false true false true false false { s with M := M3, a1 := a, k1 := k } m f) rfl (Wk.mk' (id) (by repeat' constructor) (by repeat' constructor) (injOK_id _) rfl rfl rfl) ?_
        intro m2
        exact n110010100 _ m2 _ (hp.sc1 hM hy)
      · refine VBoth.mk ?_ ?_
        · refine (VFact.mk hp.le ?_)
          refine Z _ _ _ [31] ?_
          refine (VFz.mk fun x _ M3 hM hx => ?_)
          refine (VFact.mk (hp.le.trans hM) ?_)
          refine J _ _ [0, 1, 2, 4, 5, 6, 7, 8, 10, 11, 12, 13, 14, 16] _ (hSt true false true false true false true false false { s with M := M3, x2 := x } m f) rfl (Wk.mk' (id) (by repeat' constructor) (by repeat' constructor) (injOK_id _) rfl rfl rfl) ?_
          intro m2
          exact n101010100 _ m2 _ (hp.sb2 hM hx)
        · refine VBoth.mk ?_ ?_
          · refine (VFact.mk hp.le ?_)
            refine J _ _ [0, 1, 2, 4, 5, 6, 7, 10, 11, 12, 13, 14, 16, 17] _ (hSt true false false false true false true true false s m f) rfl (Wk.mk' (fun i => if i = 94 then 100 else i) (by repeat' constructor) (by repeat' constructor) (by simp [injOK, hSt, hOw, ifc]) rfl rfl rfl) ?_
            intro m2
            exact n100010110 _ m2 _ hp
          · refine (VFact.mk hp.le ?_)
            refine J _ _ [0, 1, 2, 4, 5, 6, 7, 10, 11, 12, 13, 14, 16, 18] _ (hSt true false false false true false true false true s m f) rfl (Wk.mk' (fun i => if i = 95 then 100 else i) (by repeat' constructor) (by repeat' constructor) (by simp [injOK, hSt, hOw, ifc]) rfl rfl rfl) ?_
            intro m2
            exact n100010101 _ m2 _ hp
    have n100010010 : ∀ (s : HD) (m f : Mem), HP true false false false true false M2 s → T 9 [0, 1, 2, 4, 5, 6, 7, 10, 11, 12, 13, 14, 17] (hSt true false false false true false false true false s m f) := by
      clear n111100000 n111010000 n111000100 n111000010 n111000001 n110010100 n110010001 n110000110 n110000101 n110000011 n101010100 n101010001 n101000110 n101000101 n101000011 n100010101 n100000111 n001010110 n001010101 n001010011 n001000111 n000010111 n111000000 n110010000 n110000100 n110000010 n110000001 n101010000 n101000100 n101000010 n101000001 n100010100
      intro s m f hp
      refine H _ _ _ ?_
      refine VBoth.mk ?_ ?_
      · refine (VOwn.frz ?_)
        refine (VFn.mk _ (row_fn 10 s.x1 [spA, spC] s.M (hp.p1 rfl) (i64_of (by decide)) (by decide) (by decide)) ?_)
        rintro rs M3 hM ⟨y, rfl, _, hy⟩
        obtain ⟨a, k, rfl⟩ := hy.shape
        refine (VFact.mk (hp.le.trans hM) ?_)
        refine J _ _ [0, 1, 2, 3, 4, 5, 6, 7, 10, 11, 12, 13, 14, 17] _ (hSt true true false false true false false true false { s with M := M3, a1 := a, k1 := k } m f) rfl (Wk.mk' (id) (by repeat' constructor) (by repeat' constructor) (injOK_id _) rfl rfl rfl) ?_
        intro m2
        exact n110010010 _ m2 _ (hp.sc1 hM hy)
      · refine VBoth.mk ?_ ?_
        · refine (VFact.mk hp.le ?_)
          refine Z _ _ _ [31] ?_
          refine (VFz.mk fun x _ M3 hM hx => ?_)
          refine (VFact.mk (hp.le.trans hM) ?_)
          refine J _ _ [0, 1, 2, 4, 5, 6, 7, 8, 10, 11, 12, 13, 14, 17] _ (hSt true false true false true false false true false { s with M := M3, x2 := x } m f) rfl (Wk.mk' (id) (by repeat' constructor) (by repeat' constructor) (injOK_id _) rfl rfl rfl) ?_
          intro m2
          exact n101010010 _ m2 _ (hp.sb2 hM hx)
        · refine VBoth.mk ?_ ?_
          · refine (VFact.mk hp.le ?_)
            refine J _ _ [0, 1, 2, 4, 5, 6, 7, 10, 11, 12, 13, 14, 16, 17] _ (hSt true false false false true false true true false s m f) rfl (Wk.mk' (fun i => if i = 93 then 100 else i) (by repeat' constructor) (by repeat' constructor) (by simp [injOK, hSt, hOw, ifc]) rfl rfl rfl) ?_
            intro m2
            exact n100010110 _ m2 _ hp
          · refine (VFact.mk hp.le ?_)
            refine J _ _ [0, 1, 2, 4, 5, 6, 7, 10, 11, 12, 13, 14, 17, 18] _ (hSt true false false false true false false true true s m f) rfl (Wk.mk' (fun i => if i = 95 then 100 else i) (by repeat' constructor) (by repeat' constructor) (by simp [injOK, hSt, hOw, ifc]) rfl rfl rfl) ?_
            intro m2
            exact n100010011 _ m2 _ hp
    have n100010001 : ∀ (s : HD) (m f : Mem), HP true false false false true false M2 s → T 9 [0, 1, 2, 4, 5, 6, 7, 10, 11, 12, 13, 14, 18] (hSt true false false false true false false false true s m f) := by
      clear n111100000 n111010000 n111000100 n111000010 n111000001 n110010100 n110010010 n110000110 n110000101 n110000011 n101010100 n101010010 n101000110 n101000101 n101000011 n100010110 n100000111 n001010110 n001010101 n001010011 n001000111 n000010111 n111000000 n110010000 n110000100 n110000010 n110000001 n101010000 n101000100 n101000010 n101000001 n100010100 n100010010
      intro s m f hp
      refine H _ _ _ ?_
      refine VBoth.mk ?_ ?_
      · refine (VOwn.frz ?_)
        refine (VFn.mk _ (row_fn 10 s.x1 [spA, spC] s.M (hp.p1 rfl) (i64_of (by decide)) (by decide) (by decide)) ?_)
        rintro rs M3 hM ⟨y, rfl, _, hy⟩
        obtain ⟨a, k, rfl⟩ := hy.shape
        refine (VFact.mk (hp.le.trans hM) ?_)
        refine J _ _ [0, 1, 2, 3, 4, 5, 6, 7, 10, 11, 12, 13, 14, 18] _ (hSt true true false false true false false false true { s with M := M3, a1 := a, k1 := k } m f) rfl (Wk.mk' (id) (by repeat' constructor) (by repeat' constructor) (injOK_id _) rfl rfl rfl) ?_
        intro m2
        exact n110010001 _ m2 _ (hp.sc1 hM hy)
      · refine VBoth.mk ?_ ?_
        · refine (VFact.mk hp.le ?_)
          refine Z _ _ _ [31] ?_
          refine (VFz.mk fun x _ M3 hM hx => ?_)
          refine (VFact.mk (hp.le.trans hM) ?_)
          refine J _ _ [0, 1, 2, 4, 5, 6, 7, 8, 10, 11, 12, 13, 14, 18] _ (hSt true false true false true false false false true { s with M := M3, x2 := x } m f) rfl (Wk.mk' (id) (by repeat' constructor) (by repeat' constructor) (injOK_id _) rfl rfl rfl) ?_
          intro m2
          exact n101010001 _ m2 _ (hp.sb2 hM hx)
        · refine VBoth.mk ?_ ?_
          · refine (VFact.mk hp.le ?_)
            refine J _ _ [0, 1, 2, 4, 5, 6, 7, 10, 11, 12, 13, 14, 16, 18] _ (hSt true false false false true false true false true s m f) rfl (Wk.mk' (fun i => if i = 93 then 100 else i) (by repeat' constructor) (by repeat' constructor) (by simp [injOK, hSt, hOw, ifc]) rfl rfl rfl) ?_
            intro m2
            exact n100010101 _ m2 _ hp
          · refine (VFact.mk hp.le ?_)
            refine J _ _ [0, 1, 2, 4, 5, 6, 7, 10, 11, 12, 13, 14, 17, 18] _ (hSt true false false false true false false true true s m f) rfl (Wk.mk' (fun i => if i = 94 then 100 else i) (by repeat' constructor) (by repeat' constructor) (by simp [injOK, hSt, hOw, ifc]) rfl rfl rfl) ?_
            intro m2
            exact n100010011 _ m2 _ hp
    have n100000110 : ∀ (s : HD) (m f : Mem), HP true false false false false false M2 s → T 9 [0, 1, 2, 4, 5, 6, 7, 10, 11, 12, 13, 16, 17] (hSt true false false false false false true true false s m f) := by
      clear n111100000 n111010000 n111000100 n111000010 n111000001 n110010100 n110010010 n110010001 n110000101 n110000011 n101010100 n101010010 n101010001 n101000101 n101000011 n100010101 n100010011 n001010110 n001010101 n001010011 n001000111 n000010111 n111000000 n110010000 n110000100 n110000010 n110000001 n101010000 n101000100 n101000010 n101000001 n100010100 n100010010 n100010001
      intro s m f hp
      refine H _ _ _ ?_
      refine VBoth.mk ?_ ?_
      · refine (VOwn.frz ?_)
        refine (VFn.mk _ (row_fn 10 s.x1 [spA, spC] s.M (hp.p1 rfl) (i64_of (by decide)) (by decide) (by decide)) ?_)
        rintro rs M3 hM ⟨y, rfl, _, hy⟩
        obtain ⟨a, k, rfl⟩ := hy.shape
        refine (VFact.mk (hp.le.trans hM) ?_)
        refine J _ _ [0, 1, 2, 3, 4, 5, 6, 7, 10, 11, 12, 13, 16, 17] _ (hSt true true false false false false true true false { s with M := M3, a1 := a, k1 := k } m f) rfl (Wk.mk' (id) (by repeat' constructor) (by repeat' constructor) (injOK_id _) rfl rfl rfl) ?_
        intro m2
        exact n110000110 _ m2 _ (hp.sc1 hM hy)
      · refine VBoth.mk ?_ ?_
        · refine (VFact.mk hp.le ?_)
          refine Z _ _ _ [31] ?_
          refine (VFz.mk fun x _ M3 hM hx => ?_)
          refine (VFact.mk (hp.le.trans hM) ?_)
          refine J _ _ [0, 1, 2, 4, 5, 6, 7, 8, 10, 11, 12, 13, 16, 17] _ (hSt true false true false false false true true false { s with M := M3, x2 := x } m f) rfl (Wk.mk' (id) (by repeat' constructor) (by repeat' constructor) (injOK_id _) rfl rfl rfl) ?_
          intro m2
          exact n101000110 _ m2 _ (hp.sb2 hM hx)
        · refine VBoth.mk ?_ ?_
          · refine (VFact.mk hp.le ?_)
            refine Z _ _ _ [37] ?_
            refine (VFz.mk fun x _ M3 hM hx => ?_)
            refine (VFact.mk (hp.le.trans hM) ?_)
            refine J _ _ [0, 1, 2, 4, 5, 6, 7, 10, 11, 12, 13, 14, 16, 17] _ (hSt true false false false true false true true false { s with M := M3, x3 := x } m f) rfl (Wk.mk' (id) (by repeat' constructor) (by repeat' constructor) (injOK_id _) rfl rfl rfl) ?_
            intro m2
            exact n100010110 _ m2 _ (hp.sb3 hM hx)
          · refine (VFact.mk hp.le ?_)
            refine J _ _ [0, 1, 2, 4, 5, 6, 7, 10, 11, 12, 13, 16, 17, 18] _ (hSt true false false false false false true true true s m f) rfl (Wk.mk' (fun i => if i = 95 then 100 else i) (by repeat' constructor) (by repeat' constructor) (by simp [injOK, hSt, hOw, ifc]) rfl rfl rfl) ?_
            intro m2
            exact n100000111 _ m2 _ hp
    have n100000101 : ∀ (s : HD) (m f : Mem), HP true false false false false false M2 s → T 9 [0, 1, 2, 4, 5, 6, 7, 10, 11, 12, 13, 16, 18] (hSt true false false false false false true false true s m f) := by
      clear n111100000 n111010000 n111000100 n111000010 n111000001 n110010100 n110010010 n110010001 n110000110 n110000011 n101010100 n101010010 n101010001 n101000110 n101000011 n100010110 n100010011 n001010110 n001010101 n001010011 n001000111 n000010111 n111000000 n110010000 n110000100 n110000010 n110000001 n101010000 n101000100 n101000010 n101000001 n100010100 n100010010 n100010001 n100000110
      intro s m f hp
      refine H _ _ _ ?_
      refine VBoth.mk ?_ ?_
      · refine (VOwn.frz ?_)
        refine (VFn.mk _ (row_fn 10 s.x1 [spA, spC] s.M (hp.p1 rfl) (i64_of (by decide)) (by decide) (by decide)) ?_)
        rintro rs M3 hM ⟨y, rfl, _, hy⟩
        obtain ⟨a, k, rfl⟩ := hy.shape
        refine (VFact.mk (hp.le.trans hM) ?_)
        refine J _ _ [0, 1, 2, 3, 4, 5, 6, 7, 10, 11, 12, 13, 16, 18] _ (hSt true true false false false false true false true { s with M := M3, a1 := a, k1 := k } m f) rfl (Wk.mk' (id) (by repeat' constructor) (by repeat' constructor) (injOK_id _) rfl rfl rfl) ?_
        intro m2
        exact n110000101 _ m2 _ (hp.sc1 hM hy)
      · refine VBoth.mk ?_ ?_
        · refine (VFact.mk hp.le ?_)
          refine Z _ _ _ [31] ?_
          refine (VFz.mk fun x _ M3 hM hx => ?_)
          refine (VFact.mk (hp.le.trans hM) ?_)
          refine J _ _ [0, 1, 2, 4, 5, 6, 7, 8, 10, 11, 12, 13, 16, 18] _ (hSt true false true false false false true false true { s with M := M3, x2 := x } m f) rfl (Wk.mk' (id) (by repeat' constructor) (by repeat' constructor) (injOK_id _) rfl rfl rfl) ?_
          intro m2
          exact n101000101 _ m2 _ (hp.sb2 hM hx)
        · refine VBoth.mk ?_ ?_
          · refine (VFact.mk hp.le ?_)
            refine Z _ _ _ [37] ?_
            refine (VFz.mk fun x _ M3 hM hx => ?_)
            refine (VFact.mk (hp.le.trans hM) ?_)
            refine J _ _ [0, 1, 2, 4, 5, 6, 7, 10, 11, 12, 13, 14, 16, 18] _ (hSt true false false false true false true false true { s with M := M3, x3 := x } m f) rfl (Wk.mk' (id) (by repeat' constructor) (by repeat' constructor) (injOK_id _) rfl rfl rfl) ?_
            intro m2
            exact n100010101 _ m2 _ (hp.sb3 hM hx)
          · refine (VFact.mk hp.le ?_)
            refine J _ _ [0, 1, 2, 4, 5, 6, 7, 10, 11, 12, 13, 16, 17, 18] _ (hSt true false false false false false true true true s m f) rfl (Wk.mk' (fun i => if i = 94 then 100 else i) (by repeat' constructor) (by repeat' constructor) (by simp [injOK, hSt, hOw, ifc]) rfl rfl rfl) ?_
            intro m2
            exact n100000111 _ m2 _ hp
    have n100000011 : ∀ (s : HD) (m f : Mem), HP true false false false false false M2 s → T 9 [0, 1, 2, 4, 5, 6, 7, 10, 11, 12, 13, 17, 18] (hSt true false false false false false false true true s m f) := by
      clear n111100000 n111010000 n111000100 n111000010 n111000001 n110010100 n110010010 n110010001 n110000110 n110000101 n101010100 n101010010 n101010001 n101000110 n101000101 n100010110 n100010101 n001010110 n001010101 n001010011 n001000111 n000010111 n111000000 n110010000 n110000100 n110000010 n110000001 n101010000 n101000100 n101000010 n101000001 n100010100 n100010010 n100010001 n100000110 n100000101
      intro s m f hp
      refine H _ _ _ ?_
      refine VBoth.mk ?_ ?_
      · refine (VOwn.frz ?_)
        refine (VFn.mk _ (row_fn 10 s.x1 [spA, spC] s.M (hp.p1 rfl) (i64_of (by decide)) (by decide) (by decide)) ?_)
        rintro rs M3 hM ⟨y, rfl, _, hy⟩
        obtain ⟨a, k, rfl⟩ := hy.shape
        refine (VFact.mk (hp.le.trans hM) ?_)
        refine J _ _ [0, 1, 2, 3, 4, 5, 6, 7, 10, 11, 12, 13, 17, 18] _ (hSt true true false false false false false true true { s with M := M3, a1 := a, k1 := k } m f) rfl (Wk.mk' (id) (by repeat' constructor) (by repeat' constructor) (injOK_id _) rfl rfl rfl) ?_
        intro m2
        exact n110000011 _ m2 _ (hp.sc1 hM hy)
      · refine VBoth.mk ?_ ?_
        · refine (VFact.mk hp.le ?_)
          refine Z _ _ _ [31] ?_
          refine (VFz.mk fun x _ M3 hM hx => ?_)
          refine (VFact.mk (hp.le.trans hM) ?_)
          refine J _ _ [0, 1, 2, 4, 5, 6, 7, 8, 10, 11, 12, 13, 17, 18] _ (hSt true false true false false false false true true { s with M := M3, x2 := x } m f) rfl (Wk.mk' (id) (by repeat' constructor) (by repeat' constructor) (injOK_id _) rfl rfl rfl) ?_
          intro m2
          exact n101000011 _ m2 _ (hp.sb2 hM hx)
        · refine VBoth.mk ?_ ?_
          · refine (VFact.mk hp.le ?_)
            refine Z _ _ _ [37] ?_
            refine (VFz.mk fun x _ M3 hM hx => ?_)
            refine (VFact.mk (hp.le.trans hM) ?_)
            refine J _ _ [0, 1, 2, 4, 5, 6, 7, 10, 11, 12, 13, 14, 17, 18] _ (hSt true false false false true false false true true { s with M := M3, x3 := x } m f) rfl (Wk.mk' (id) (by repeat' constructor) (by repeat' constructor) (injOK_id _) rfl rfl rfl) ?_
            intro m2
            exact n100010011 _ m2 _ (hp.sb3 hM hx)
          · refine (VFact.mk hp.le ?_)
            refine J _ _ [0, 1, 2, 4, 5, 6, 7, 10, 11, 12, 13, 16, 17, 18] _ (hSt true false false false false false true true true s m f) rfl (Wk.mk' (fun i => if i = 93 then 100 else i) (by repeat' constructor) (by repeat' constructor) (by simp [injOK, hSt, hOw, ifc]) rfl rfl rfl) ?_
            intro m2
            exact n100000111 _ m2 _ hp
    have n001010100 : ∀ (s : HD) (m f : Mem), HP false false true false true false M2 s → T 9 [0, 1, 4, 5, 6, 7, 8, 10, 11, 12, 13, 14, 16] (hSt false false true false true false true false false s m f) := by
      clear n111100000 n111010000 n111000100 n111000010 n111000001 n110010100 n110010010 n110010001 n110000110 n110000101 n110000011 n101010010 n101010001 n101000110 n101000101 n101000011 n100010110 n100010101 n100010011 n100000111 n001010011 n001000111 n000010111 n111000000 n110010000 n110000100 n110000010 n110000001 n101010000 n101000100 n101000010 n101000001 n100010100 n100010010 n100010001 n100000110 n100000101 n100000011
      intro s m f hp
      refine H _ _ _ ?_
      refine VBoth.mk ?_ ?_
      · refine (VFact.mk hp.le ?_)
        refine Z _ _ _ [25] ?_
        refine (VFz.mk fun x _ M3 hM hx => ?_)
        refine (VFact.mk (hp.le.trans hM) ?_)
        refine J _ _ [0, 1, 2, 4, 5, 6, 7, 8, 10, 11, 12, 13, 14, 16] _ (hSt true false true false true false true false false { s with M := M3, x1 := x } m f) rfl (Wk.mk' (id) (by repeat' constructor) (by repeat' constructor) (injOK_id _) rfl rfl rfl) ?_
        intro m2
        exact n101010100 _ m2 _ (hp.sb1 hM hx)
      · refine VBoth.mk ?_ ?_
        · refine (VFact.mk hp.le ?_)
          refine J _ _ [0, 1, 4, 5, 6, 7, 8, 10, 11, 12, 13, 14, 16, 17] _ (hSt false false true false true false true true false s m f) rfl (Wk.mk' (fun i => if i = 94 then 100 else i) (by repeat' constructor) (by repeat' constructor) (by simp [injOK, hSt, hOw, ifc]) rfl rfl rfl) ?_
          intro m2
          exact n001010110 _ m2 _ hp
        · refine (VFact.mk hp.le ?_)
          refine J _ _ [0, 1, 4, 5, 6, 7, 8, 10, 11, 12, 13, 14, 16, 18] _ (hSt false false true false true false true false true s m f) rfl (Wk.mk' (fun i => if i = 95 then 100 else i) (by repeat' constructor) (by repeat' constructor) (by simp [injOK, hSt, hOw, ifc]) rfl rfl rfl) ?_
          intro m2
          exact n001010101 _ m2 _ hp
    have n001010010 : ∀ (s : HD) (m f : Mem), HP false false true false true false M2 s → T 9 [0, 1, 4, 5, 6, 7, 8, 10, 11, 12, 13, 14, 17] (hSt false false true false true false false true false s m f) := by
      clear n111100000 n111010000 n111000100 n111000010 n111000001 n110010100 n110010010 n110010001 n110000110 n110000101 n110000011 n101010100 n101010001 n101000110 n101000101 n101000011 n100010110 n100010101 n100010011 n100000111 n001010101 n001000111 n000010111 n111000000 n110010000 n110000100 n110000010 n110000001 n101010000 n101000100 n101000010 n101000001 n100010100 n100010010 n100010001 n100000110 n100000101 n100000011 n001010100
      intro s m f hp
      refine H _ _ _ ?_
      refine VBoth.mk ?_ ?_
      · refine (VFact.mk hp.le ?_)
        refine Z _ _ _ [25] ?_
        refine (VFz.mk fun x _ M3 hM hx => ?_)
        refine (VFact.mk (hp.le.trans hM) ?_)
        refine J _ _ [0, 1, 2, 4, 5, 6, 7, 8, 10, 11, 12, 13, 14, 17] _ (hSt true false true false true false false true false { s with M := M3, x1 := x } m f) rfl (Wk.mk' (id) (by repeat' constructor) (by repeat' constructor) (injOK_id _) rfl rfl rfl) ?_
        intro m2
        exact n101010010 _ m2 _ (hp.sb1 hM hx)
      · refine VBoth.mk ?_ ?_
        · refine (VFact.mk hp.le ?_)
          refine J _ _ [0, 1, 4, 5, 6, 7, 8, 10, 11, 12, 13, 14, 16, 17] _ (hSt false false true false true false true true false s m f) rfl (Wk.mk' (fun i => if i = 93 then 100 else i) (by repeat' constructor) (by repeat' constructor) (by simp [injOK, hSt, hOw, ifc]) rfl rfl rfl) ?_
          intro m2
          exact n001010110 _ m2 _ hp
        · refine (VFact.mk hp.le ?_)
          refine J _ _ [0, 1, 4, 5, 6, 7, 8, 10, 11, 12, 13, 14, 17, 18] _ (hSt false false true false true false false true true s m f) rfl (Wk.mk' (fun i => if i = 95 then 100 else i) (by repeat' constructor) (by repeat' constructor) (by simp [injOK, hSt, hOw, ifc]) rfl rfl rfl) ?_
          intro m2
          exact n001010011 _ m2 _ hp
    have n001010001 : ∀ (s : HD) (m f : Mem), HP false false true false true false M2 s → T 9 [0, 1, 4, 5, 6, 7, 8, 10, 11, 12, 13, 14, 18] (hSt false false true false true false false false true s m f) := by
      clear n111100000 n111010000 n111000100 n111000010 n111000001 n110010100 n110010010 n110010001 n110000110 n110000101 n110000011 n101010100 n101010010 n101000110 n101000101 n101000011 n100010110 n100010101 n100010011 n100000111 n001010110 n001000111 n000010111 n111000000 n110010000 n110000100 n110000010 n110000001 n101010000 n101000100 n101000010 n101000001 n100010100 n100010010 n100010001 n100000110 n100000101 n100000011 n001010100 n001010010
      intro s m f hp
      refine H _ _ _ ?_
      refine VBoth.mk ?_ ?_
      · refine (VFact.mk hp.le ?_)
        refine Z _ _ _ [25] ?_
        refine (VFz.mk fun x _ M3 hM hx => ?_)
        refine (VFact.mk (hp.le.trans hM) ?_)
        refine J _ _ [0, 1, 2, 4, 5, 6, 7, 8, 10, 11, 12, 13, 14, 18] _ (hSt true false true false true false false false true { s with M := M3, x1 := x } m f) rfl (Wk.mk' (id) (by repeat' constructor) (by repeat' constructor) (injOK_id _) rfl rfl rfl) ?_
        intro m2
        exact n101010001 _ m2 _ (hp.sb1 hM hx)
      · refine VBoth.mk ?_ ?_
        · refine (VFact.mk hp.le ?_)
          refine J _ _ [0, 1, 4, 5, 6, 7, 8, 10, 11, 12, 13, 14, 16, 18] _ (hSt false false true false true false true false true s m f) rfl (Wk.mk' (fun i => if i = 93 then 100 else i) (by repeat' constructor) (by repeat' constructor) (by simp [injOK, hSt, hOw, ifc]) rfl rfl rfl) ?_
          intro m2
          exact n001010101 _ m2 _ hp
        · refine (VFact.mk hp.le ?_)
          refine J _ _ [0, 1, 4, 5, 6, 7, 8, 10, 11, 12, 13, 14, 17, 18] _ (hSt false false true false true false false true true s m f) rfl (Wk.mk' (fun i => if i = 94 then 100 else i) (by repeat' constructor) (by repeat' constructor) (by simp [injOK, hSt, hOw, ifc]) rfl rfl rfl) ?_
          intro m2
          exact n001010011 _ m2 _ hp
    have n001000110 : ∀ (s : HD) (m f : Mem), HP false false true false false false M2 s → T 9 [0, 1, 4, 5, 6, 7, 8, 10, 11, 12, 13, 16, 17] (hSt false false true false false false true true false s m f) := by
      clear n111100000 n111010000 n111000100 n111000010 n111000001 n110010100 n110010010 n110010001 n110000110 n110000101 n110000011 n101010100 n101010010 n101010001 n101000101 n101000011 n100010110 n100010101 n100010011 n100000111 n001010101 n001010011 n000010111 n111000000 n110010000 n110000100 n110000010 n110000001 n101010000 n101000100 n101000010 n101000001 n100010100 n100010010 n100010001 n100000110 n100000101 n100000011 n001010100 n001010010 n001010001
      intro s m f hp
      refine H _ _ _ ?_
      refine VBoth.mk ?_ ?_
      · refine (VFact.mk hp.le ?_)
        refine Z _ _ _ [25] ?_
        refine (VFz.mk fun x _ M3 hM hx => ?_)
        refine (VFact.mk (hp.le.trans hM) ?_)
        refine J _ _ [0, 1, 2, 4, 5, 6, 7, 8, 10, 11, 12, 13, 16, 17] _ (hSt true false true false false false true true false { s with M := M3, x1 := x } m f) rfl (Wk.mk' (id) (by repeat' constructor) (by repeat' constructor) (injOK_id _) rfl rfl rfl) ?_
        intro m2
        exact n101000110 _ m2 _ (hp.sb1 hM hx)
      · refine VBoth.mk ?_ ?_
        · refine (VFact.mk hp.le ?_)
          refine Z _ _ _ [37] ?_
          refine (VFz.mk fun x _ M3 hM hx => ?_)
          refine (VFact.mk (hp.le.trans hM) ?_)
          refine J _ _ [0, 1, 4, 5, 6, 7, 8, 10, 11, 12, 13, 14, 16, 17] _ (hSt false false true false true false true true false { s with M := M3, x3 := x } m f) rfl (Wk.mk' (id) (by repeat' constructor) (by repeat' constructor) (injOK_id _) rfl rfl rfl) ?_
          intro m2
          exact n001010110 _ m2 _ (hp.sb3 hM hx)
        · refine (VFact.mk hp.le ?_)
          refine J _ _ [0, 1, 4, 5, 6, 7, 8, 10, 11, 12, 13, 16, 17, 18] _ (hSt false false true false false false true true true s m f) rfl (Wk.mk' (fun i => if i = 95 then 100 else i) (by repeat' constructor) (by repeat' constructor) (by simp [injOK, hSt, hOw, ifc]) rfl rfl rfl) ?_
          intro m2
          exact n001000111 _ m2 _ hp
    have n001000101 : ∀ (s : HD) (m f : Mem), HP false false true false false false M2 s → T 9 [0, 1, 4, 5, 6, 7, 8, 10, 11, 12, 13, 16, 18] (hSt false false true false false false true false true s m f) := by
      clear n111100000 n111010000 n111000100 n111000010 n111000001 n110010100 n110010010 n110010001 n110000110 n110000101 n110000011 n101010100 n101010010 n101010001 n101000110 n101000011 n100010110 n100010101 n100010011 n100000111 n001010110 n001010011 n000010111 n111000000 n110010000 n110000100 n110000010 n110000001 n101010000 n101000100 n101000010 n101000001 n100010100 n100010010 n100010001 n100000110 n100000101 n100000011 n001010100 n001010010 n001010001 n001000110
      intro s m f hp
      refine H _ _ _ ?_
      refine VBoth.mk ?_ ?_
      · refine (VFact.mk hp.le ?_)
        refine Z _ _ _ [25] ?_
        refine (VFz.mk fun x _ M3 hM hx => ?_)
        refine (VFact.mk (hp.le.trans hM) ?_)
        refine J _ _ [0, 1, 2, 4, 5, 6, 7, 8, 10, 11, 12, 13, 16, 18] _ (hSt true false true false false false true false true { s with M := M3, x1 := x } m f) rfl (Wk.mk' (id) (by repeat' constructor) (by repeat' constructor) (injOK_id _) rfl rfl rfl) ?_
        intro m2
        exact n101000101 _ m2 _ (hp.sb1 hM hx)
      · refine VBoth.mk ?_ ?_
        · refine (VFact.mk hp.le ?_)
          refine Z _ _ _ [37] ?_
          refine (VFz.mk fun x _ M3 hM hx => ?_)
          refine (VFact.mk (hp.le.trans hM) ?_)
          refine J _ _ [0, 1, 4, 5, 6, 7, 8, 10, 11, 12, 13, 14, 16, 18] _ (hSt false false true false true false true false true { s with M := M3, x3 := x } m f) rfl (Wk.mk' (id) (by repeat' constructor) (by repeat' constructor) (injOK_id _) rfl rfl rfl) ?_
          intro m2
          exact n001010101 _ m2 _ (hp.sb3 hM hx)
        · refine (VFact.mk hp.le ?_)
          refine J _ _ [0, 1, 4, 5, 6, 7, 8, 10, 11, 12, 13, 16, 17, 18] _ (hSt false false true false false false true true true s m f) rfl (Wk.mk' (fun i => if i = 94 then 100 else i) (by repeat' constructor) (by repeat' constructor) (by simp [injOK, hSt, hOw, ifc]) rfl rfl rfl) ?_
          intro m2
          exact n001000111 _ m2 _ hp
    have n001000011 : ∀ (s : HD) (m f : Mem), HP false false true false false false M2 s → T 9 [0, 1, 4, 5, 6, 7, 8, 10, 11, 12, 13, 17, 18] (hSt false false true false false false false true true s m f) := by
      clear n111100000 n111010000 n111000100 n111000010 n111000001 n110010100 n110010010 n110010001 n110000110 n110000101 n110000011 n101010100 n101010010 n101010001 n101000110 n101000101 n100010110 n100010101 n100010011 n100000111 n001010110 n001010101 n000010111 n111000000 n110010000 n110000100 n110000010 n110000001 n101010000 n101000100 n101000010 n101000001 n100010100 n100010010 n100010001 n100000110 n100000101 n100000011 n001010100 n001010010 n001010001 n001000110 n001000101
      intro s m f hp
      refine H _ _ _ ?_
      refine VBoth.mk ?_ ?_
      · refine (VFact.mk hp.le ?_)
        refine Z _ _ _ [25] ?_
        refine (VFz.mk fun x _ M3 hM hx => ?_)
        refine (VFact.mk (hp.le.trans hM) ?_)
        refine J _ _ [0, 1, 2, 4, 5, 6, 7, 8, 10, 11, 12, 13, 17, 18] _ (hSt true false true false false false false true true { s with M := M3, x1 := x } m f) rfl (Wk.mk' (id) (by repeat' constructor) (by repeat' constructor) (injOK_id _) rfl rfl rfl) ?_
        intro m2
        exact n101000011 _ m2 _ (hp.sb1 hM hx)
      · refine VBoth.mk ?_ ?_
        · refine (VFact.mk hp.le ?_)
          refine Z _ _ _ [37] ?_
          refine (VFz.mk fun x _ M3 hM hx => ?_)
          refine (VFact.mk (hp.le.trans hM) ?_)
          refine J _ _ [0, 1, 4, 5, 6, 7, 8, 10, 11, 12, 13, 14, 17, 18] _ (hSt false false true false true false false true true { s with M := M3, x3 := x } m f) rfl (Wk.mk' (id) (by repeat' constructor) (by repeat' constructor) (injOK_id _) rfl rfl rfl) ?_
          intro m2
          exact n001010011 _ m2 _ (hp.sb3 hM hx)
        · refine (VFact.mk hp.le ?_)
          refine J _ _ [0, 1, 4, 5, 6, 7, 8, 10, 11, 12, 13, 16, 17, 18] _ (hSt false false true false false false true true true s m f) rfl (Wk.mk' (fun i => if i = 93 then 100 else i) (by repeat' constructor) (by repeat' constructor) (by simp [injOK, hSt, hOw, ifc]) rfl rfl rfl) ?_
          intro m2
          exact n001000111 _ m2 _ hp
    have n000010110 : ∀ (s : HD) (m f : Mem), HP false false false false true false M2 s → T 9 [0, 1, 4, 5, 6, 7, 10, 11, 12, 13, 14, 16, 17] (hSt false false false false true false true true false s m f) := by
      clear n111100000 n111010000 n111000100 n111000010 n111000001 n110010100 n110010010 n110010001 n110000110 n110000101 n110000011 n101010100 n101010010 n101010001 n101000110 n101000101 n101000011 n100010101 n100010011 n100000111 n001010101 n001010011 n001000111 n111000000 n110010000 n110000100 n110000010 n110000001 n101010000 n101000100 n101000010 n101000001 n100010100 n100010010 n100010001 n100000110 n100000101 n100000011 n001010100 n001010010 n001010001 n001000110 n001000101 n001000011
      intro s m f hp
      refine H _ _ _ ?_
      refine VBoth.mk ?_ ?_
      · refine (VFact.mk hp.le ?_)
        refine Z _ _ _ [25] ?_
        refine (VFz.mk fun x _ M3 hM hx => ?_)
        refine (VFact.mk (hp.le.trans hM) ?_)
        refine J _ _ [0, 1, 2, 4, 5, 6, 7, 10, 11, 12, 13, 14, 16, 17] _ (hSt true false false false true false true true false { s with M := M3, x1 := x } m f) rfl (Wk.mk' (id) (by repeat' constructor) (by repeat' constructor) (injOK_id _) rfl rfl rfl) ?_
        intro m2
        exact n100010110 _ m2 _ (hp.sb1 hM hx)
      · refine VBoth.mk ?_ ?_
        · refine (VFact.mk hp.le ?_)
          refine Z _ _ _ [31] ?_
          refine (VFz.mk fun x _ M3 hM hx => ?_)
          refine (VFact.mk (hp.le.trans hM) ?_)
          refine J _ _ [0, 1, 4, 5, 6, 7, 8, 10, 11, 12, 13, 14, 16, 17] _ (hSt false false true false true false true true false { s with M := M3, x2 := x } m f) rfl (Wk.mk' (id) (by repeat' constructor) (by repeat' constructor) (injOK_id _) rfl rfl rfl) ?_
          intro m2
          exact n001010110 _ m2 _ (hp.sb2 hM hx)
        · refine (VFact.mk hp.le ?_)
          refine J _ _ [0, 1, 4, 5, 6, 7, 10, 11, 12, 13, 14, 16, 17, 18] _ (hSt false false false false true false true true true s m f) rfl (Wk.mk' (fun i => if i = 95 then 100 else i) (by repeat' constructor) (by repeat' constructor) (by simp [injOK, hSt, hOw, ifc]) rfl rfl rfl) ?_
          intro m2
          exact n000010111 _ m2 _ hp
    have n000010101 : ∀ (s : HD) (m f : Mem), HP false false false false true false M2 s → T 9 [0, 1, 4, 5, 6, 7, 10, 11, 12, 13, 14, 16, 18] (hSt false false false false true false true false true s m f) := by
      clear n111100000 n111010000 n111000100 n111000010 n111000001 n110010100 n110010010 n110010001 n110000110 n110000101 n110000011 n101010100 n101010010 n101010001 n101000110 n101000101 n101000011 n100010110 n100010011 n100000111 n001010110 n001010011 n001000111 n111000000 n110010000 n110000100 n110000010 n110000001 n101010000 n101000100 n101000010 n101000001 n100010100 n100010010 n100010001 n100000110 n100000101 n100000011 n001010100 n001010010 n001010001 n001000110 n001000101 n001000011 n000010110
      intro s m f hp
      refine H _ _ _ ?_
      refine VBoth.mk ?_ ?_
      · refine (VFact.mk hp.le ?_)
        refine Z _ _ _ [25] ?_
        refine (VFz.mk fun x _ M3 hM hx => ?_)
        refine (VFact.mk (hp.le.trans hM) ?_)
        refine J _ _ [0, 1, 2, 4, 5, 6, 7, 10, 11, 12, 13, 14, 16, 18] _ (hSt true false false false true false true false true { s with M := M3, x1 := x } m f) rfl (Wk.mk' (id) (by repeat' constructor) (by repeat' constructor) (injOK_id _) rfl rfl rfl) ?_
        intro m2
        exact n100010101 _ m2 _ (hp.sb1 hM hx)
      · refine VBoth.mk ?_ ?_
        · refine (VFact.mk hp.le ?_)
          refine Z _ _ _ [31] ?_
          refine (VFz.mk fun x _ M3 hM hx => ?_)
          refine (VFact.mk (hp.le.trans hM) ?_)
          refine J _ _ [0, 1, 4, 5, 6, 7, 8, 10, 11, 12, 13, 14, 16, 18] _ (hSt false false true false true false true false true { s with M := M3, x2 := x } m f) rfl (Wk.mk' (id) (by repeat' constructor) (by repeat' constructor) (injOK_id _) rfl rfl rfl) ?_
          intro m2
          exact n001010101 _ m2 _ (hp.sb2 hM hx)
        · refine (VFact.mk hp.le ?_)
          refine J _ _ [0, 1, 4, 5, 6, 7, 10, 11, 12, 13, 14, 16, 17, 18] _ (hSt false false false false true false true true true s m f) rfl (Wk.mk' (fun i => if i = 94 then 100 else i) (by repeat' constructor) (by repeat' constructor) (by simp [injOK, hSt, hOw, ifc]) rfl rfl rfl) ?_
          intro m2
          exact n000010111 _ m2 _ hp
    have n000010011 : ∀ (s : HD) (m f : Mem), HP false false false false true false M2 s → T 9 [0, 1, 4, 5, 6, 7, 10, 11, 12, 13, 14, 17, 18] (hSt false false false false true false false true true s m f) := by
      clear n111100000 n111010000 n111000100 n111000010 n111000001 n110010100 n110010010 n110010001 n110000110 n110000101 n110000011 n101010100 n101010010 n101010001 n101000110 n101000101 n101000011 n100010110 n100010101 n100000111 n001010110 n001010101 n001000111 n111000000 n110010000 n110000100 n110000010 n110000001 n101010000 n101000100 n101000010 n101000001 n100010100 n100010010 n100010001 n100000110 n100000101 n100000011 n001010100 n001010010 n001010001 n001000110 n001000101 n001000011 n000010110 n000010101
      intro s m f hp
      refine H _ _ _ ?_
      refine VBoth.mk ?_ ?_
      · refine (VFact.mk hp.le ?_)
        refine Z _ _ _ [25] ?_
        refine (VFz.mk fun x _ M3 hM hx => ?_)
        refine (VFact.mk (hp.le.trans hM) ?_)
        refine J _ _ [0, 1, 2, 4, 5, 6, 7, 10, 11, 12, 13, 14, 17, 18] _ (hSt true false false false true false false true true { s with M := M3, x1 := x } m f) rfl (Wk.mk' (id) (by repeat' constructor) (by repeat' constructor) (injOK_id _) rfl rfl rfl) ?_
        intro m2
        exact n100010011 _ m2 _ (hp.sb1 hM hx)
      · refine VBoth.mk ?_ ?_
        · refine (VFact.mk hp.le ?_)
          refine Z _ _ _ [31] ?_
          refine (VFz.mk fun x _ M3 hM hx => ?_)
          refine (VFact.mk (hp.le.trans hM) ?_)
          refine J _ _ [0, 1, 4, 5, 6, 7, 8, 10, 11, 12, 13, 14, 17, 18] _ (hSt false false true false true false false true true { s with M := M3, x2 := x } m f) rfl (Wk.mk' (id) (by repeat' constructor) (by repeat' constructor) (injOK_id _) rfl rfl rfl) ?_
          intro m2
          exact n001010011 _ m2 _ (hp.sb2 hM hx)
        · refine (VFact.mk hp.le ?_)
          refine J _ _ [0, 1, 4, 5, 6, 7, 10, 11, 12, 13, 14, 16, 17, 18] _ (hSt false false false false true false true true true s m f) rfl (Wk.mk' (fun i => if i = 93 then 100 else i) (by repeat' constructor) (by repeat' constructor) (by simp [injOK, hSt, hOw, ifc]) rfl rfl rfl) ?_
          intro m2
          exact n000010111 _ m2 _ hp
    have n000000111 : ∀ (s : HD) (m f : Mem), HP false false false false false false M2 s → T 9 [0, 1, 4, 5, 6, 7, 10, 11, 12, 13, 16, 17, 18] (hSt false false false false false false true true true s m f) := by
      clear n111100000 n111010000 n111000100 n111000010 n111000001 n110010100 n110010010 n110010001 n110000110 n110000101 n110000011 n101010100 n101010010 n101010001 n101000110 n101000101 n101000011 n100010110 n100010101 n100010011 n001010110 n001010101 n001010011 n111000000 n110010000 n110000100 n110000010 n110000001 n101010000 n101000100 n101000010 n101000001 n100010100 n100010010 n100010001 n100000110 n100000101 n100000011 n001010100 n001010010 n001010001 n001000110 n001000101 n001000011 n000010110 n000010101 n000010011
      intro s m f hp
      refine H _ _ _ ?_
      refine VBoth.mk ?_ ?_
      · refine (VFact.mk hp.le ?_)
        refine Z _ _ _ [25] ?_
        refine (VFz.mk fun x _ M3 hM hx => ?_)
        refine (VFact.mk (hp.le.trans hM) ?_)
        refine J _ _ [0, 1, 2, 4, 5, 6, 7, 10, 11, 12, 13, 16, 17, 18] _ (hSt true false false false false false true true true { s with M := M3, x1 := x } m f) rfl (Wk.mk' (id) (by repeat' constructor) (by repeat' constructor) (injOK_id _) rfl rfl rfl) ?_
        intro m2
        exact n100000111 _ m2 _ (hp.sb1 hM hx)
      · refine VBoth.mk ?_ ?_
        · refine (VFact.mk hp.le ?_)
          refine Z _ _ _ [31] ?_
          refine (VFz.mk fun x _ M3 hM hx => ?_)
          refine (VFact.mk (hp.le.trans hM) ?_)
          refine J _ _ [0, 1, 4, 5, 6, 7, 8, 10, 11, 12, 13, 16, 17, 18] _ (hSt false false true false false false true true true { s with M := M3, x2 := x } m f) rfl (Wk.mk' (id) (by repeat' constructor) (by repeat' constructor) (injOK_id _) rfl rfl rfl) ?_
          intro m2
          exact n001000111 _ m2 _ (hp.sb2 hM hx)
        · refine (VFact.mk hp.le ?_)
          refine Z _ _ _ [37] ?_
          refine (VFz.mk fun x _ M3 hM hx => ?_)
          refine (VFact.mk (hp.le.trans hM) ?_)
          refine J _ _ [0, 1, 4, 5, 6, 7, 10, 11, 12, 13, 14, 16, 17, 18] _ (hSt false false false false true false true true true { s with M := M3, x3 := x } m f) rfl (Wk.mk' (id) (by repeat' constructor) (by repeat' constructor) (injOK_id _) rfl rfl rfl) ?_
          intro m2
          exact n000010111 _ m2 _ (hp.sb3 hM hx)
    clear n111100000 n111010000 n111000100 n111000010 n111000001 n110010100 n110010010 n110010001 n110000110 n110000101 n110000011 n101010100 n101010010 n101010001 n101000110 n101000101 n101000011 n100010110 n100010101 n100010011 n100000111 n001010110 n001010101 n001010011 n001000111 n000010111
    have n110000000 : ∀ (s : HD) (m f : Mem), HP true true false false false false M2 s → T 10 [0, 1, 2, 3, 4, 5, 6, 7, 10, 11, 12, 13] (hSt true true false false false false false false false s m f) := by
      clear n101010000 n101000100 n101000010 n101000001 n100010100 n100010010 n100010001 n100000110 n100000101 n100000011 n001010100 n001010010 n001010001 n001000110 n001000101 n001000011 n000010110 n000010101 n000010011 n000000111
      intro s m f hp
      refine H _ _ _ ?_
      refine VBoth.mk ?_ ?_
      · refine (VFact.mk hp.le ?_)
        refine Z _ _ _ [31] ?_
        refine (VFz.mk fun x _ M3 hM hx => ?_)
        refine (VFact.mk (hp.le.trans hM) ?_)
        refine J _ _ [0, 1, 2, 3, 4, 5, 6, 7, 8, 10, 11, 12, 13] _ (hSt true true true false false false false false false { s with M := M3, x2 := x } m f) rfl (Wk.mk' (id) (by repeat' constructor) (by repeat' constructor) (injOK_id _) rfl rfl rfl) ?_
        intro m2
        exact n111000000 _ m2 _ (hp.sb2 hM hx)
      · refine VBoth.mk ?_ ?_
        · refine (VFact.mk hp.le ?_)
          refine Z _ _ _ [37] ?_
          refine (VFz.mk fun x _ M3 hM hx => ?_)
          refine (VFact.mk (hp.le.trans hM) ?_)
          refine J _ _ [0, 1, 2, 3, 4, 5, 6, 7, 10, 11, 12, 13, 14] _ (hSt true true false false true false false false false { s with M := M3, x3 := x } m f) rfl (Wk.mk' (id) (by repeat' constructor) (by repeat' constructor) (injOK_id _) rfl rfl rfl) ?_
          intro m2
          exact n110010000 _ m2 _ (hp.sb3 hM hx)
        · refine VBoth.mk ?_ ?_
          · refine (VFact.mk hp.le ?_)
            refine J _ _ [0, 1, 2, 3, 4, 5, 6, 7, 10, 11, 12, 13, 16] _ (hSt true true false false false false true false false s m f) rfl (Wk.mk' (fun i => if i = 93 then 100 else i) (by repeat' constructor) (by repeat' constructor) (by simp [injOK, hSt, hOw, ifc]) rfl rfl rfl) ?_
            intro m2
            exact n110000100 _ m2 _ hp
          · refine VBoth.mk ?_ ?_
            · refine (VFact.mk hp.le ?_)
              refine J _ _ [0, 1, 2, 3, 4, 5, 6, 7, 10, 11, 12, 13, 17] _ (hSt true true false false false false false true false s m f) rfl (Wk.mk' (fun i => if i = 94 then 100 else i) (by repeat' constructor) (by repeat' constructor) (by simp [injOK, hSt, hOw, ifc]) rfl rfl rfl) ?_
              intro m2
              exact n110000010 _ m2 _ hp
            · refine (VFact.mk hp.le ?_)
              refine J _ _ [0, 1, 2, 3, 4, 5, 6, 7, 10, 11, 12, 13, 18] _ (hSt true true false false false false false false true s m f) rfl (Wk.mk' (fun i => if i = 95 then 100 else i) (by repeat' constructor) (by repeat' constructor) (by simp [injOK, hSt, hOw, ifc]) rfl rfl rfl) ?_
              intro m2
              exact n110000001 _ m2 _ hp
    have n101000000 : ∀ (s : HD) (m f : Mem), HP true false true false false false M2 s → T 10 [0, 1, 2, 4, 5, 6, 7, 8, 10, 11, 12, 13] (hSt true false true false false false false false false s m f) := by
      clear n110010000 n110000100 n110000010 n110000001 n100010100 n100010010 n100010001 n100000110 n100000101 n100000011 n001010100 n001010010 n001010001 n001000110 n001000101 n001000011 n000010110 n000010101 n000010011 n000000111 n110000000
      intro s m f hp
      refine H _ _ _ ?_
      refine VBoth.mk ?_ ?_
      · refine (VOwn.frz ?_)
        refine (VFn.mk _ (row_fn 10 s.x1 [spA, spC] s.M (hp.p1 rfl) (i64_of (by decide)) (by decide) (by decide)) ?_)
        rintro rs M3 hM ⟨y, rfl, _, hy⟩
        obtain ⟨a, k, rfl⟩ := hy.shape
        refine (VFact.mk (hp.le.trans hM) ?_)
        refine J _ _ [0, 1, 2, 3, 4, 5, 6, 7, 8, 10, 11, 12, 13] _ (hSt true true true false false false false false false { s with M := M3, a1 := a, k1 := k } m f) rfl (Wk.mk' (id) (by repeat' constructor) (by repeat' constructor) (injOK_id _) rfl rfl rfl) ?_
        intro m2
        exact n111000000 _ m2 _ (hp.sc1 hM hy)
      · refine VBoth.mk ?_ ?_
        · refine (VFact.mk hp.le ?_)
          refine Z _ _ _ [37] ?_
          refine (VFz.mk fun x _ M3 hM hx => ?_)
          refine (VFact.mk (hp.le.trans hM) ?_)
          refine J _ _ [0, 1, 2, 4, 5, 6, 7, 8, 10, 11, 12, 13, 14] _ (hSt true false true false true false false false false { s with M := M3, x3 := x } m f) rfl (Wk.mk' (id) (by repeat' constructor) (by repeat' constructor) (injOK_id _) rfl rfl rfl) ?_
          intro m2
          exact n101010000 _ m2 _ (hp.sb3 hM hx)
        · refine VBoth.mk ?_ ?_
          · refine (VFact.mk hp.le ?_)
            refine J _ _ [0, 1, 2, 4, 5, 6, 7, 8, 10, 11, 12, 13, 16] _ (hSt true false true false false false true false false s m f) rfl (Wk.mk' (fun i => if i = 93 then 100 else i) (by repeat' constructor) (by repeat' constructor) (by simp [injOK, hSt, hOw, ifc]) rfl rfl rfl) ?_
            intro m2
            exact n101000100 _ m2 _ hp
          · refine VBoth.mk ?_ ?_
            · refine (VFact.mk hp.le ?_)
              refine J _ _ [0, 1, 2, 4, 5, 6, 7, 8, 10, 11, 12, 13, 17] _ (hSt true false true false false false false true false s m f) rfl (Wk.mk' (fun i => if i = 94 then 100 else i) (by repeat' constructor) (by repeat' constructor) (by simp [injOK, hSt, hOw, ifc]) rfl rfl rfl) ?_
              intro m2
              exact n101000010 _ m2 _ hp
            · refine (VFact.mk hp.le ?_)
              refine J _ _ [0, 1, 2, 4, 5, 6, 7, 8, 10, 11, 12, 13, 18] _ (hSt true false true false false false false false true s m f) rfl (Wk.mk' (fun i => if i = 95 then 100 else i) (by repeat' constructor) (by repeat' constructor) (by simp [injOK, hSt, hOw, ifc]) rfl rfl rfl) ?_
              intro m2
              exact n101000001 _ m2 _ hp
    have n100010000 : ∀ (s : HD) (m f : Mem), HP true false false false true false M2 s → T 10 [0, 1, 2, 4, 5, 6, 7, 10, 11, 12, 13, 14] (hSt true false false false true false false false false s m f) := by
      clear n111000000 n110000100 n110000010 n110000001 n101000100 n101000010 n101000001 n100000110 n100000101 n100000011 n001010100 n001010010 n001010001 n001000110 n001000101 n001000011 n000010110 n000010101 n000010011 n000000111 n110000000 n101000000
      intro s m f hp
      refine H _ _ _ ?_
      refine VBoth.mk ?_ ?_
      · refine (VOwn.frz ?_)
        refine (VFn.mk _ (row_fn 10 s.x1 [spA, spC] s.M (hp.p1 rfl) (i64_of (by decide)) (by decide) (by decide)) ?_)
        rintro rs M3 hM ⟨y, rfl, _, hy⟩
        obtain ⟨a, k, rfl⟩ := hy.shape
        refine (VFact.mk (hp.le.trans hM) ?_)
        refine J _ _ [0, 1, 2, 3, 4, 5, 6, 7, 10, 11, 12, 13, 14] _ (hSt true true false false true false false false false { s with M := M3, a1 := a, k1 := k } m f) rfl (Wk.mk' (id) (by repeat' constructor) (by repeat' constructor) (injOK_id _) rfl rfl rfl) ?_
        intro m2
        exact n110010000 _ m2 _ (hp.sc1 hM hy)
      · refine VBoth.mk ?_ ?_
        · refine (VFact.mk hp.le ?_)
          refine Z _ _ _ [31] ?_
          refine (VFz.mk fun x _ M3 hM hx => ?_)
          refine (VFact.mk (hp.le.trans hM) ?_)
          refine J _ _ [0, 1, 2, 4, 5, 6, 7, 8, 10, 11, 12, 13, 14] _ (hSt true false true false true false false false false { s with M := M3, x2 := x } m f) rfl (Wk.mk' (id) (by repeat' constructor) (by repeat' constructor) (injOK_id _) rfl rfl rfl) ?_
          intro m2
          exact n101010000 _ m2 _ (hp.sb2 hM hx)
        · refine VBoth.mk ?_ ?_
          · refine (VFact.mk hp.le ?_)
            refine J _ _ [0, 1, 2, 4, 5, 6, 7, 10, 11, 12, 13, 14, 16] _ (hSt true false false false true false true false false s m f) rfl (Wk.mk' (fun i => if i = 93 then 100 else i) (by repeat' constructor) (by repeat' constructor) (by simp [injOK, hSt, hOw, ifc]) rfl rfl rfl) ?_
            intro m2
            exact n100010100 _ m2 _ hp
          · refine VBoth.mk ?_ ?_
            · refine (VFact.mk hp.le ?_)
              refine J _ _ [0, 1, 2, 4, 5, 6, 7, 10, 11, 12, 13, 14, 17] _ (hSt true false false false true false false true false s m f) rfl (Wk.mk' (fun i => if i = 94 then 100 else i) (by repeat' constructor) (by repeat' constructor) (by simp [injOK, hSt, hOw, ifc]) rfl rfl rfl) ?_
              intro m2
              exact n100010010 _ m2 _ hp
            · refine (VFact.mk hp.le ?_)
              refine J _ _ [0, 1, 2, 4, 5, 6, 7, 10, 11, 12, 13, 14, 18] _ (hSt true false false false true false false false true s m f) rfl (Wk.mk' (fun i => if i = 95 then 100 else i) (by repeat' constructor) (by repeat' constructor) (by simp [injOK, hSt, hOw, ifc]) rfl rfl rfl) ?_
              intro m2
              exact n100010001 _ m2 _ hp
    have n100000100 : ∀ (s : HD) (m f : Mem), HP true false false false false false M2 s → T 10 [0, 1, 2, 4, 5, 6, 7, 10, 11, 12, 13, 16] (hSt true false false false false false true false false s m f) := by
      clear n111000000 n110010000 n110000010 n110000001 n101010000 n101000010 n101000001 n100010010 n100010001 n100000011 n001010100 n001010010 n001010001 n001000110 n001000101 n001000011 n000010110 n000010101 n000010011 n000000111 n110000000 n101000000 n100010000
      intro s m f hp
      refine H _ _ _ ?_
      refine VBoth.mk ?_ ?_
      · refine (VOwn.frz ?_)
        refine (VFn.mk _ (row_fn 10 s.x1 [spA, spC] s.M (hp.p1 rfl) (i64_of (by decide)) (by decide) (by decide)) ?_)
        rintro rs M3 hM ⟨y, rfl, _, hy⟩
        obtain ⟨a, k, rfl⟩ := hy.shape
        refine (VFact.mk (hp.le.trans hM) ?_)
        refine J _ _ [0, 1, 2, 3, 4, 5, 6, 7, 10, 11, 12, 13, 16] _ (hSt true true false false false false true false false { s with M := M3, a1 := a, k1 := k } m f) rfl (Wk.mk' (id) (by repeat' constructor) (by repeat' constructor) (injOK_id _) rfl rfl rfl) ?_
        intro m2
        exact n110000100 _ m2 _ (hp.sc1 hM hy)
      · refine VBoth.mk ?_ ?_
        · refine (VFact.mk hp.le ?_)
          refine Z _ _ _ [31] ?_
          refine (VFz.mk fun x _ M3 hM hx => ?_)
          refine (VFact.mk (hp.le.trans hM) ?_)
          refine J _ _ [0, 1, 2, 4, 5, 6, 7, 8, 10, 11, 12, 13, 16] _ (hSt true false true false false false true false false { s with M := M3, x2 := x } m f) rfl (Wk.mk' (id) (by repeat' constructor) (by repeat' constructor) (injOK_id _) rfl rfl rfl) ?_
          intro m2
          exact n101000100 _ m2 _ (hp.sb2 hM hx)
        · refine VBoth.mk ?_ ?_
          · refine (VFact.mk hp.le ?_)
            refine Z _ _ _ [37] ?_
            refine (VFz.mk fun x _ M3 hM hx => ?_)
            refine (VFact.mk (hp.le.trans hM) ?_)
            refine J _ _ [0, 1, 2, 4, 5, 6, 7, 10, 11, 12, 13, 14, 16] _ (hSt true false false false true false true false false { s with M := M3, x3 := x } m f) rfl (Wk.mk' (id) (by repeat' constructor) (by repeat' constructor) (injOK_id _) rfl rfl rfl) ?_
            intro m2
            exact n100010100 _ m2 _ (hp.sb3 hM hx)
          · refine VBoth.mk ?_ ?_
            · refine (VFact.mk hp.le ?_)
              refine J _ _ [0, 1, 2, 4, 5, 6, 7, 10, 11, 12, 13, 16, 17] _ (hSt true false false false false false true true false s m f) rfl (Wk.mk' (fun i => if i = 94 then 100 else i) (by repeat' constructor) (by repeat' constructor) (by simp [injOK, hSt, hOw, ifc]) rfl rfl rfl) ?_
              intro m2
              exact n100000110 _ m2 _ hp
            · refine (VFact.mk hp.le ?_)
              refine J _ _ [0, 1, 2, 4, 5, 6, 7, 10, 11, 12, 13, 16, 18] _ (hSt true false false false false false true false true s m f) rfl (Wk.mk' (fun i => if i = 95 then 100 else i) (by repeat' constructor) (by repeat' constructor) (by simp [injOK, hSt, hOw, ifc]) rfl rfl rfl) ?_
              intro m2
              exact n100000101 _ m2 _ hp
    have n100000010 : ∀ (s : HD) (m f : Mem), HP true false false false false false M2 s → T 10 [0, 1, 2, 4, 5, 6, 7, 10, 11, 12, 13, 17] (hSt true false false false false false false true false s m f) := by
      clear n111000000 n110010000 n110000100 n110000001 n101010000 n101000100 n101000001 n100010100 n100010001 n100000101 n001010100 n001010010 n001010001 n001000110 n001000101 n001000011 n000010110 n000010101 n000010011 n000000111 n110000000 n101000000 n100010000 n100000100
      intro s m f hp
      refine H _ _ _ ?_
      refine VBoth.mk ?_ ?_
      · refine (VOwn.frz ?_)
        refine (VFn.mk _ (row_fn 10 s.x1 [spA, spC] s.M (hp.p1 rfl) (i64_of (by decide)) (by decide) (by decide)) ?_)
        rintro rs M3 hM ⟨y, rfl, _, hy⟩
        obtain ⟨a, k, rfl⟩ := hy.shape
        refine (VFact.mk (hp.le.trans hM) ?_)
        refine J _ _ [0, 1, 2, 3, 4, 5, 6, 7, 10, 11, 12, 13, 17] _ (hSt true true false false false false false true false { s with M := M3, a1 := a, k1 := k } m f) rfl (Wk.mk' (id) (by repeat' constructor) (by repeat' constructor) (injOK_id _) rfl rfl rfl) ?_
        intro m2
        exact n110000010 _ m2 _ (hp.sc1 hM hy)
      · refine VBoth.mk ?_ ?_
        · refine (VFact.mk hp.le ?_)
          refine Z _ _ _ [31] ?_
          refine (VFz.mk fun x _ M3 hM hx => ?_)
          refine (VFact.mk (hp.le.trans hM) ?_)
          refine J _ _ [0, 1, 2, 4, 5, 6, 7, 8, 10, 11, 12, 13, 17] _ (hSt true false true false false false false true false { s with M := M3, x2 := x } m f) rfl (Wk.mk' (id) (by repeat' constructor) (by repeat' constructor) (injOK_id _) rfl rfl rfl) ?_
          intro m2
          exact n101000010 _ m2 _ (hp.sb2 hM hx)
        · refine VBoth.mk ?_ ?_
          · refine (VFact.mk hp.le ?_)
            refine Z _ _ _ [37] ?_
            refine (VFz.mk fun x _ M3 hM hx => ?_)
            refine (VFact.mk (hp.le.trans hM) ?_)
            refine J _ _ [0, 1, 2, 4, 5, 6, 7, 10, 11, 12, 13, 14, 17] _ (hSt true false false false true false false true false { s with M := M3, x3 := x } m f) rfl (Wk.mk' (id) (by repeat' constructor) (by repeat' constructor) (injOK_id _) rfl rfl rfl) ?_
            intro m2
            exact n100010010 _ m2 _ (hp.sb3 hM hx)
          · refine VBoth.mk ?_ ?_
            · refine (VFact.mk hp.le ?_)
              refine J _ _ [0, 1, 2, 4, 5, 6, 7, 10, 11, 12, 13, 16, 17] _ (hSt true false false false false false true true false s m f) rfl (Wk.mk' (fun i => if i = 93 then 100 else i) (by repeat' constructor) (by repeat' constructor) (by simp [injOK, hSt, hOw, ifc]) rfl rfl rfl) ?_
              intro m2
              exact n100000110 _ m2 _ hp
            · refine (VFact.mk hp.le ?_)
              refine J _ _ [0, 1, 2, 4, 5, 6, 7, 10, 11, 12, 13, 17, 18] _ (hSt true false false false false false false true true s m f) rfl (Wk.mk' (fun i => if i = 95 then 100 else i) (by repeat' constructor) (by repeat' constructor) (by simp [injOK, hSt, hOw, ifc]) rfl rfl rfl) ?_
              intro m2
              exact n100000011 _ m2 _ hp
    have n100000001 : ∀ (s : HD) (m f : Mem), HP true false false false false false M2 s → T 10 [0, 1, 2, 4, 5, 6, 7, 10, 11, 12, 13, 18] (hSt true false false false false false false false true s m f) := by
      clear n111000000 n110010000 n110000100 n110000010 n101010000 n101000100 n101000010 n100010100 n100010010 n100000110 n001010100 n001010010 n001010001 n001000110 n001000101 n001000011 n000010110 n000010101 n000010011 n000000111 n110000000 n101000000 n100010000 n100000100 n100000010
      intro s m f hp
      refine H _ _ _ ?_
      refine VBoth.mk ?_ ?_
      · refine (VOwn.frz ?_)
        refine (VFn.mk _ (row_fn 10 s.x1 [spA, spC] s.M (hp.p1 rfl) (i64_of (by decide)) (by decide) (by decide)) ?_)
        rintro rs M3 hM ⟨y, rfl, _, hy⟩
        obtain ⟨a, k, rfl⟩ := hy.shape
        refine (VFact.mk (hp.le.trans hM) ?_)
        refine J _ _ [0, 1, 2, 3, 4, 5, 6, 7, 10, 11, 12, 13, 18] _ (hSt true true false false false false false false true { s with M := M3, a1 := a, k1 := k } m f) rfl (Wk.mk' (id) (by repeat' constructor) (by repeat' constructor) (injOK_id _) rfl rfl rfl) ?_
        intro m2
        exact n110000001 _ m2 _ (hp.sc1 hM hy)
      · refine VBoth.mk ?_ ?_
        · refine (VFact.mk hp.le ?_)
          refine Z _ _ _ [31] ?_
          refine (VFz.mk fun x _ M3 hM hx => ?_)
          refine (VFact.mk (hp.le.trans hM) ?_)
          refine J _ _ [0, 1, 2, 4, 5, 6, 7, 8, 10, 11, 12, 13, 18] _ (hSt true false true false false false false false true { s with M := M3, x2 := x } m f) rfl (Wk.mk' (id) (by repeat' constructor) (by repeat' constructor) (injOK_id _) rfl rfl rfl) ?_
          intro m2
          exact n101000001 _ m2 _ (hp.sb2 hM hx)
        · refine VBoth.mk ?_ ?_
          · refine (VFact.mk hp.le ?_)
            refine Z _ _ _ [37] ?_
            refine (VFz.mk fun x _ M3 hM hx => ?_)
            refine (VFact.mk (hp.le.trans hM) ?_)
            refine J _ _ [0, 1, 2, 4, 5, 6, 7, 10, 11, 12, 13, 14, 18] _ (hSt true false false false true false false false true { s with M := M3, x3 := x } m f) rfl (Wk.mk' (id) (by repeat' constructor) (by repeat' constructor) (injOK_id _) rfl rfl rfl) ?_
            intro m2
            exact n100010001 _ m2 _ (hp.sb3 hM hx)
          · refine VBoth.mk ?_ ?_
            · refine (VFact.mk hp.le ?_)
              refine J _ _ [0, 1, 2, 4, 5, 6, 7, 10, 11, 12, 13, 16, 18] _ (hSt true false false false false false true false true s m f) rfl (Wk.mk' (fun i => if i = 93 then 100 else i) (by repeat' constructor) (by repeat' constructor) (by simp [injOK, hSt, hOw, ifc]) rfl rfl rfl) ?_
              intro m2
              exact n100000101 _ m2 _ hp
            · refine (VFact.mk hp.le ?_)
              refine J _ _ [0, 1, 2, 4, 5, 6, 7, 10, 11, 12, 13, 17, 18] _ (hSt true false false false false false false true true s m f) rfl (Wk.mk' (fun i => if i = 94 then 100 else i) (by repeat' constructor) (by repeat' constructor) (by simp [injOK, hSt, hOw, ifc]) rfl rfl rfl) ?_
              intro m2
              exact n100000011 _ m2 _ hp
    have n001010000 : ∀ (s : HD) (m f : Mem), HP false false true false true false M2 s → T 10 [0, 1, 4, 5, 6, 7, 8, 10, 11, 12, 13, 14] (hSt false false true false true false false false false s m f) := by
      clear n111000000 n110010000 n110000100 n110000010 n110000001 n101000100 n101000010 n101000001 n100010100 n100010010 n100010001 n100000110 n100000101 n100000011 n001000110 n001000101 n001000011 n000010110 n000010101 n000010011 n000000111 n110000000 n101000000 n100010000 n100000100 n100000010 n100000001
      intro s m f hp
      refine H _ _ _ ?_
      refine VBoth.mk ?_ ?_
      · refine (VFact.mk hp.le ?_)
        refine Z _ _ _ [25] ?_
        refine (VFz.mk fun x _ M3 hM hx => ?_)
        refine (VFact.mk (hp.le.trans hM) ?_)
        refine J _ _ [0, 1, 2, 4, 5, 6, 7, 8, 10, 11, 12, 13, 14] _ (hSt true false true false true false false false false { s with M := M3, x1 := x } m f) rfl (Wk.mk' (id) (by repeat' constructor) (by repeat' constructor) (injOK_id _) rfl rfl rfl) ?_
        intro m2
        exact n101010000 _ m2 _ (hp.sb1 hM hx)
      · refine VBoth.mk ?_ ?_
        · refine (VFact.mk hp.le ?_)
          refine J _ _ [0, 1, 4, 5, 6, 7, 8, 10, 11, 12, 13, 14, 16] _ (hSt false false true false true false true false false s m f) rfl (Wk.mk' (fun i => if i = 93 then 100 else i) (by repeat' constructor) (by repeat' constructor) (by simp [injOK, hSt, hOw, ifc]) rfl rfl rfl) ?_
          intro m2
          exact n001010100 _ m2 _ hp
        · refine VBoth.mk ?_ ?_
          · refine (VFact.mk hp.le ?_)
            refine J _ _ [0, 1, 4, 5, 6, 7, 8, 10, 11, 12, 13, 14, 17] _ (hSt false false true false true false false true false s m f) rfl (Wk.mk' (fun i => if i = 94 then 100 else i) (by repeat' constructor) (by repeat' constructor) (by simp [injOK, hSt, hOw, ifc]) rfl rfl rfl) ?_
            intro m2
            exact n001010010 _ m2 _ hp
          · refine (VFact.mk hp.le ?_)
            refine J _ _ [0, 1, 4, 5, 6, 7, 8, 10, 11, 12, 13, 14, 18] _ (hSt false false true false true false false false true s m f) rfl (Wk.mk' (fun i => if i = 95 then 100 else i) (by repeat' constructor) (by repeat' constructor) (by simp [injOK, hSt, hOw, ifc]) rfl rfl rfl) ?_
            intro m2
            exact n001010001 _ m2 _ hp
    have n001000100 : ∀ (s : HD) (m f : Mem), HP false false true false false false M2 s → T 10 [0, 1, 4, 5, 6, 7, 8, 10, 11, 12, 13, 16] (hSt false false true false false false true false false s m f) := by
      clear n111000000 n110010000 n110000100 n110000010 n110000001 n101010000 n101000010 n101000001 n100010100 n100010010 n100010001 n100000110 n100000101 n100000011 n001010010 n001010001 n001000011 n000010110 n000010101 n000010011 n000000111 n110000000 n101000000 n100010000 n100000100 n100000010 n100000001 n001010000
      intro s m f hp
      refine H _ _ _ ?_
      refine VBoth.mk ?_ ?_
      · refine (VFact.mk hp.le ?_)
        refine Z _ _ _ [25] ?_
        refine (VFz.mk fun x _ M3 hM hx => ?_)
        refine (VFact.mk (hp.le.trans hM) ?_)
        refine J _ _ [0, 1, 2, 4, 5, 6, 7, 8, 10, 11, 12, 13, 16] _ (hSt true false true false false false true false false { s with M := M3, x1 := x } m f) rfl (Wk.mk' (id) (by repeat' constructor) (by repeat' constructor) (injOK_id _) rfl rfl rfl) ?_
        intro m2
        exact n101000100 _ m2 _ (hp.sb1 hM hx)
      · refine VBoth.mk ?_ ?_
        · refine (VFact.mk hp.le ?_)
          refine Z _ _ _ [37] ?_
          refine (VFz.mk fun x _ M3 hM hx => ?_)
          refine (VFact.mk (hp.le.trans hM) ?_)
          refine J _ _ [0, 1, 4, 5, 6, 7, 8, 10, 11, 12, 13, 14, 16] _ (hSt false false true false true false true false false { s with M := M3, x3 := x } m f) rfl (Wk.mk' (id) (by repeat' constructor) (by repeat' constructor) (injOK_id _) rfl rfl rfl) ?_
          intro m2
          exact n001010100 _ m2 _ (hp.sb3 hM hx)
        · refine VBoth.mk ?_ ?_
          · refine (VFact.mk hp.le ?_)
            refine J _ _ [0, 1, 4, 5, 6, 7, 8, 10, 11, 12, 13, 16, 17] _ (hSt false false true false false false true true false s m f) rfl (Wk.mk' (fun i => if i = 94 then 100 else i) (by repeat' constructor) (by repeat' constructor) (by simp [injOK, hSt, hOw, ifc]) rfl rfl rfl) ?_
            intro m2
            exact n001000110 _ m2 _ hp
          · refine (VFact.mk hp.le ?_)
            refine J _ _ [0, 1, 4, 5, 6, 7, 8, 10, 11, 12, 13, 16, 18] _ (hSt false false true false false false true false true s m f) rfl (Wk.mk' (fun i => if i = 95 then 100 else i) (by repeat' constructor) (by repeat' constructor) (by simp [injOK, hSt, hOw, ifc]) rfl rfl rfl) ?_
            intro m2
            exact n001000101 _ m2 _ hp
    have n001000010 : ∀ (s : HD) (m f : Mem), HP false false true false false false M2 s → T 10 [0, 1, 4, 5, 6, 7, 8, 10, 11, 12, 13, 17] (hSt false false true false false false false true false s m f) := by
      clear n111000000 n110010000 n110000100 n110000010 n110000001 n101010000 n101000100 n101000001 n100010100 n100010010 n100010001 n100000110 n100000101 n100000011 n001010100 n001010001 n001000101 n000010110 n000010101 n000010011 n000000111 n110000000 n101000000 n100010000 n100000100 n100000010 n100000001 n001010000 n001000100
      intro s m f hp
      refine H _ _ _ ?_
      refine VBoth.mk ?_ ?_
      · refine (VFact.mk hp.le ?_)
        refine Z _ _ _ [25] ?_
        refine (VFz.mk fun x _ M3 hM hx => ?_)
        refine (VFact.mk (hp.le.trans hM) ?_)
        refine J _ _ [0, 1, 2, 4, 5, 6, 7, 8, 10, 11, 12, 13, 17] _ (hSt true false true false false false false true false { s with M := M3, x1 := x } m f) rfl (Wk.mk' (id) (by repeat' constructor) (by repeat' constructor) (injOK_id _) rfl rfl rfl) ?_
        intro m2
        exact n101000010 _ m2 _ (hp.sb1 hM hx)
      · refine VBoth.mk ?_ ?_
        · refine (VFact.mk hp.le ?_)
          refine Z _ _ _ [37] ?_
          refine (VFz.mk fun x _ M3 hM hx => ?_)
          refine (VFact.mk (hp.le.trans hM) ?_)
          refine J _ _ [0, 1, 4, 5, 6, 7, 8, 10, 11, 12, 13, 14, 17] _ (hSt false false true false true false false true false { s with M := M3, x3 := x } m f) rfl (Wk.mk' (id) (by repeat' constructor) (by repeat' constructor) (injOK_id _) rfl rfl rfl) ?_
          intro m2
          exact n001010010 _ m2 _ (hp.sb3 hM hx)
        · refine VBoth.mk ?_ ?_
          · refine (VFact.mk hp.le ?_)
            refine J _ _ [0, 1, 4, 5, 6, 7, 8, 10, 11, 12, 13, 16, 17] _ (hSt false false true false false false true true false s m f) rfl (Wk.mk' (fun i => if i = 93 then 100 else i) (by repeat' constructor) (by repeat' constructor) (by simp [injOK, hSt, hOw, ifc]) rfl rfl rfl) ?_
            intro m2
            exact n001000110 _ m2 _ hp
          · refine (VFact.mk hp.le ?_)
            refine J _ _ [0, 1, 4, 5, 6, 7, 8, 10, 11, 12, 13, 17, 18] _ (hSt false false true false false false false true true s m f) rfl (Wk.mk' (fun i => if i = 95 then 100 else i) (by repeat' constructor) (by repeat' constructor) (by simp [injOK, hSt, hOw, ifc]) rfl rfl rfl) ?_
            intro m2
            exact n001000011 _ m2 _ hp
    have n001000001 : ∀ (s : HD) (m f : Mem), HP false false true false false false M2 s → T 10 [0, 1, 4, 5, 6, 7, 8, 10, 11, 12, 13, 18] (hSt false false true false false false false false true s m f) := by
      clear n111000000 n110010000 n110000100 n110000010 n110000001 n101010000 n101000100 n101000010 n100010100 n100010010 n100010001 n100000110 n100000101 n100000011 n001010100 n001010010 n001000110 n000010110 n000010101 n000010011 n000000111 n110000000 n101000000 n100010000 n100000100 n100000010 n100000001 n001010000 n001000100 n001000010
      intro s m f hp
      refine H _ _ _ ?_
      refine VBoth.mk ?_ ?_
      · refine (VFact.mk hp.le ?_)
        refine Z _ _ _ [25] ?_
        refine (VFz.mk fun x _ M3 hM hx => ?_)
        refine (VFact.mk (hp.le.trans hM) ?_)
        refine J _ _ [0, 1, 2, 4, 5, 6, 7, 8, 10, 11, 12, 13, 18] _ (hSt true false true false false false false false true { s with M := M3, x1 := x } m f) rfl (Wk.mk' (id) (by repeat' constructor) (by repeat' constructor) (injOK_id _) rfl rfl rfl) ?_
        intro m2
        exact n101000001 _ m2 _ (hp.sb1 hM hx)
      · refine VBoth.mk ?_ ?_
        · refine (VFact.mk hp.le ?_)
          refine Z _ _ _ [37] ?_
          refine (VFz.mk fun x _ M3 hM hx => ?_)
          refine (VFact.mk (hp.le.trans hM) ?_)
          refine J _ _ [0, 1, 4, 5, 6, 7, 8, 10, 11, 12, 13, 14, 18] _ (hSt false false true false true false false false true { s with M := M3, x3 := x } m f) rfl (Wk.mk' (id) (by repeat' constructor) (by repeat' constructor) (injOK_id _) rfl rfl rfl) ?_
          intro m2
          exact n001010001 _ m2 _ (hp.sb3 hM hx)
        · refine VBoth.mk ?_ ?_
          · refine (VFact.mk hp.le ?_)
            refine J _ _ [0, 1, 4, 5, 6, 7, 8, 10, 11, 12, 13, 16, 18] _ (hSt false false true false false false true false true s m f) rfl (Wk.mk' (fun i => if i = 93 then 100 else i) (by repeat' constructor) (by repeat' constructor) (by simp [injOK, hSt, hOw, ifc]) rfl rfl rfl) ?_
            intro m2
            exact n001000101 _ m2 _ hp
          · refine (VFact.mk hp.le ?_)
            refine J _ _ [0, 1, 4, 5, 6, 7, 8, 10, 11, 12, 13, 17, 18] _ (hSt false false true false false false false true true s m f) rfl (Wk.mk' (fun i => if i = 94 then 100 else i) (by repeat' constructor) (by repeat' constructor) (by simp [injOK, hSt, hOw, ifc]) rfl rfl rfl) ?_
            intro m2
            exact n001000011 _ m2 _ hp
    have n000010100 : ∀ (s : HD) (m f : Mem), HP false false false false true false M2 s → T 10 [0, 1, 4, 5, 6, 7, 10, 11, 12, 13, 14, 16] (hSt false false false false true false true false false s m f) := by
      clear n111000000 n110010000 n110000100 n110000010 n110000001 n101010000 n101000100 n101000010 n101000001 n100010010 n100010001 n100000110 n100000101 n100000011 n001010010 n001010001 n001000110 n001000101 n001000011 n000010011 n000000111 n110000000 n101000000 n100010000 n100000100 n100000010 n100000001 n001010000 n001000100 n001000010 n001000001
      intro s m f hp
      refine H _ _ _ ?_
      refine VBoth.mk ?_ ?_
      · refine (VFact.mk hp.le ?_)
        refine Z _ _ _ [25] ?_
        refine (VFz.mk fun x _ M3 hM hx => ?_)
        refine (VFact.mk (hp.le.trans hM) ?_)
        refine J _ _ [0, 1, 2, 4, 5, 6, 7, 10, 11, 12, 13, 14, 16] _ (hSt true false false false true false true false false { s with M := M3, x1 := x } m f) rfl (Wk.mk' (id) (by repeat' constructor) (by repeat' constructor) (injOK_id _) rfl rfl rfl) ?_
        intro m2
        exact n100010100 _ m2 _ (hp.sb1 hM hx)
      · refine VBoth.mk ?_ ?_
        · refine (VFact.mk hp.le ?_)
          refine Z _ _ _ [31] ?_
          refine (VFz.mk fun x _ M3 hM hx => ?_)
          refine (VFact.mk (hp.le.trans hM) ?_)
          refine J _ _ [0, 1, 4, 5, 6, 7, 8, 10, 11, 12, 13, 14, 16] _ (hSt false false true false true false true false false { s with M := M3, x2 := x } m f) rfl (Wk.mk' (id) (by repeat' constructor) (by repeat' constructor) (injOK_id _) rfl rfl rfl) ?_
          intro m2
          exact n001010100 _ m2 _ (hp.sb2 hM hx)
        · refine VBoth.mk ?_ ?_
          · refine (VFact.mk hp.le ?_)
            refine J _ _ [0, 1, 4, 5, 6, 7, 10, 11, 12, 13, 14, 16, 17] _ (hSt false false false false true false true true false s m f) rfl (Wk.mk' (fun i => if i = 94 then 100 else i) (by repeat' constructor) (by repeat' constructor) (by simp [injOK, hSt, hOw, ifc]) rfl rfl rfl) ?_
            intro m2
            exact n000010110 _ m2 _ hp
          · refine (VFact.mk hp.le ?_)
            refine J _ _ [0, 1, 4, 5, 6, 7, 10, 11, 12, 13, 14, 16, 18] _ (hSt false false false false true false true false true s m f) rfl (Wk.mk' (fun i => if i = 95 then 100 else i) (by repeat' constructor) (by repeat' constructor) (by simp [injOK, hSt, hOw, ifc]) rfl rfl rfl) ?_
            intro m2
            exact n000010101 _ m2 _ hp
    have n000010010 : ∀ (s : HD) (m f : Mem), HP false false false false true false M2 s → T 10 [0, 1, 4, 5, 6, 7, 10, 11, 12, 13, 14, 17] (hSt false false false false true false false true false s m f) := by
      clear n111000000 n110010000 n110000100 n110000010 n110000001 n101010000 n101000100 n101000010 n101000001 n100010100 n100010001 n100000110 n100000101 n100000011 n001010100 n001010001 n001000110 n001000101 n001000011 n000010101 n000000111 n110000000 n101000000 n100010000 n100000100 n100000010 n100000001 n001010000 n001000100 n001000010 n001000001 n000010100
      intro s m f hp
      refine H _ _ _ ?_
      refine VBoth.mk ?_ ?_
      · refine (VFact.mk hp.le ?_)
        refine Z _ _ _ [25] ?_
        refine (VFz.mk fun x _ M3 hM hx => ?_)
        refine (VFact.mk (hp.le.trans hM) ?_)
        refine J _ _ [0, 1, 2, 4, 5, 6, 7, 10, 11, 12, 13, 14, 17] _ (hSt true false false false true false false true false { s with M := M3, x1 := x } m f) rfl (Wk.mk' (id) (by repeat' constructor) (by repeat' constructor) (injOK_id _) rfl rfl rfl) ?_
        intro m2
        exact n100010010 _ m2 _ (hp.sb1 hM hx)
      · refine VBoth.mk ?_ ?_
        · refine (VFact.mk hp.le ?_)
          refine Z _ _ _ [31] ?_
          refine (VFz.mk fun x _ M3 hM hx => ?_)
          refine (VFact.mk (hp.le.trans hM) ?_)
          refine J _ _ [0, 1, 4, 5, 6, 7, 8, 10, 11, 12, 13, 14, 17] _ (hSt false false true false true false false true false { s with M := M3, x2 := x } m f) rfl (Wk.mk' (id) (by repeat' constructor) (by repeat' constructor) (injOK_id _) rfl rfl rfl) ?_
          intro m2
          exact n001010010 _ m2 _ (hp.sb2 hM hx)
        · refine VBoth.mk ?_ ?_
          · refine (VFact.mk hp.le ?_)
            refine J _ _ [0, 1, 4, 5, 6, 7, 10, 11, 12, 13, 14, 16, 17] _ (hSt false false false false true false true true false s m f) rfl (Wk.mk' (fun i => if i = 93 then 100 else i) (by repeat' constructor) (by repeat' constructor) (by simp [injOK, hSt, hOw, ifc]) rfl rfl rfl) ?_
            intro m2
            exact n000010110 _ m2 _ hp
          · refine (VFact.mk hp.le ?_)
            refine J _ _ [0, 1, 4, 5, 6, 7, 10, 11, 12, 13, 14, 17, 18] _ (hSt false false false false true false false true true s m f) rfl (Wk.mk' (fun i => if i = 95 then 100 else i) (by repeat' constructor) (by repeat' constructor) (by simp [injOK, hSt, hOw, ifc]) rfl rfl rfl) ?_
            intro m2
            exact n000010011 _ m2 _ hp
    have n000010001 : ∀ (s : HD) (m f : Mem), HP false false false false true false M2 s → T 10 [0, 1, 4, 5, 6, 7, 10, 11, 12, 13, 14, 18] (hSt false false false false true false false false true s m f) := by
      clear n111000000 n110010000 n110000100 n110000010 n110000001 n101010000 n101000100 n101000010 n101000001 n100010100 n100010010 n100000110 n100000101 n100000011 n001010100 n001010010 n001000110 n001000101 n001000011 n000010110 n000000111 n110000000 n101000000 n100010000 n100000100 n100000010 n100000001 n001010000 n001000100 n001000010 n001000001 n000010100 n000010010
      intro s m f hp
      refine H _ _ _ ?_
      refine VBoth.mk ?_ ?_
      · refine (VFact.mk hp.le ?_)
        refine Z _ _ _ [25] ?_
        refine (VFz.mk fun x _ M3 hM hx => ?_)
        refine (VFact.mk (hp.le.trans hM) ?_)
        refine J _ _ [0, 1, 2, 4, 5, 6, 7, 10, 11, 12, 13, 14, 18] _ (hSt true false false false true false false false true { s with M := M3, x1 := x } m f) rfl (Wk.mk' (id) (by repeat' constructor) (by repeat' constructor) (injOK_id _) rfl rfl rfl) ?_
        intro m2
        exact n100010001 _ m2 _ (hp.sb1 hM hx)
      · refine VBoth.mk ?_ ?_
        · refine (VFact.mk hp.le ?_)
          refine Z _ _ _ [31] ?_
          refine (VFz.mk fun x _ M3 hM hx => ?_)
          refine (VFact.mk (hp.le.trans hM) ?_)
          refine J _ _ [0, 1, 4, 5, 6, 7, 8, 10, 11, 12, 13, 14, 18] _ (hSt false false true false true false false false true { s with M := M3, x2 := x } m f) rfl (Wk.mk' (id) (by repeat' constructor) (by repeat' constructor) (injOK_id _) rfl rfl rfl) ?_
          intro m2
          exact n001010001 _ m2 _ (hp.sb2 hM hx)
        · refine VBoth.mk ?_ ?_
          · refine (VFact.mk hp.le ?_)
            refine J _ _ [0, 1, 4, 5, 6, 7, 10, 11, 12, 13, 14, 16, 18] _ (hSt false false false false true false true false true s m f) rfl (Wk.mk' (fun i => if i = 93 then 100 else i) (by repeat' constructor) (by repeat' constructor) (by simp [injOK, hSt, hOw, ifc]) rfl rfl rfl) ?_
            intro m2
            exact n000010101 _ m2 _ hp
          · refine (VFact.mk hp.le ?_)
            refine J _ _ [0, 1, 4, 5, 6, 7, 10, 11, 12, 13, 14, 17, 18] _ (hSt false false false false true false false true true s m f) rfl (Wk.mk' (fun i => if i = 94 then 100 else i) (by repeat' constructor) (by repeat' constructor) (by simp [injOK, hSt, hOw, ifc]) rfl rfl rfl) ?_
            intro m2
            exact n000010011 _ m2 _ hp
    have n000000110 : ∀ (s : HD) (m f : Mem), HP false false false false false false M2 s → T 10 [0, 1, 4, 5, 6, 7, 10, 11, 12, 13, 16, 17] (hSt false false false false false false true true false s m f) := by
      clear n111000000 n110010000 n110000100 n110000010 n110000001 n101010000 n101000100 n101000010 n101000001 n100010100 n100010010 n100010001 n100000101 n100000011 n001010100 n001010010 n001010001 n001000101 n001000011 n000010101 n000010011 n110000000 n101000000 n100010000 n100000100 n100000010 n100000001 n001010000 n001000100 n001000010 n001000001 n000010100 n000010010 n000010001
      intro s m f hp
      refine H _ _ _ ?_
      refine VBoth.mk ?_ ?_
      · refine (VFact.mk hp.le ?_)
        refine Z _ _ _ [25] ?_
        refine (VFz.mk fun x _ M3 hM hx => ?_)
        refine (VFact.mk (hp.le.trans hM) ?_)
        refine J _ _ [0, 1, 2, 4, 5, 6, 7, 10, 11, 12, 13, 16, 17] _ (hSt true false false false false false true true false { s with M := M3, x1 := x } m f) rfl (Wk.mk' (id) (by repeat' constructor) (by repeat' constructor) (injOK_id _) rfl rfl rfl) ?_
        intro m2
        exact n100000110 _ m2 _ (hp.sb1 hM hx)
      · refine VBoth.mk ?_ ?_
        · refine (VFact.mk hp.le ?_)
          refine Z _ _ _ [31] ?_
          refine (VFz.mk fun x _ M3 hM hx => ?_)
          refine (VFact.mk (hp.le.trans hM) ?_)
          refine J _ _ [0, 1, 4, 5, 6, 7, 8, 10, 11, 12, 13, 16, 17] _ (hSt false false true false false false true true false { s with M := M3, x2 := x } m f) rfl (Wk.mk' (id) (by repeat' constructor) (by repeat' constructor) (injOK_id _) rfl rfl rfl) ?_
          intro m2
          exact n001000110 _ m2 _ (hp.sb2 hM hx)
        · refine VBoth.mk ?_ ?_
          · refine (VFact.mk hp.le ?_)
            refine Z _ _ _ [37] ?_
            refine (VFz.mk fun x _ M3 hM hx => ?_)
            refine (VFact.mk (hp.le.trans hM) ?_)
            refine J _ _ [0, 1, 4, 5, 6, 7, 10, 11, 12, 13, 14, 16, 17] _ (hSt false false false false true false true true false { s with M := M3, x3 := x } m f) rfl (Wk.mk' (id) (by repeat' constructor) (by repeat' constructor) (injOK_id _) rfl rfl rfl) ?_
            intro m2
            exact n000010110 _ m2 _ (hp.sb3 hM hx)
          · refine (VFact.mk hp.le ?_)
            refine J _ _ [0, 1, 4, 5, 6, 7, 10, 11, 12, 13, 16, 17, 18] _ (hSt false false false false false false true true true s m f) rfl (Wk.mk' (fun i => if i = 95 then 100 else i) (by repeat' constructor) (by repeat' constructor) (by simp [injOK, hSt, hOw, ifc]) rfl rfl rfl) ?_
            intro m2
            exact n000000111 _ m2 _ hp
    have n000000101 : ∀ (s : HD) (m f : Mem), HP false false false false false false M2 s → T 10 [0, 1, 4, 5, 6, 7, 10, 11, 12, 13, 16, 18] (hSt false false false false false false true false true s m f) := by
      clear n111000000 n110010000 n110000100 n110000010 n110000001 n101010000 n101000100 n101000010 n101000001 n100010100 n100010010 n100010001 n100000110 n100000011 n001010100 n001010010 n001010001 n001000110 n001000011 n000010110 n000010011 n110000000 n101000000 n100010000 n100000100 n100000010 n100000001 n001010000 n001000100 n001000010 n001000001 n000010100 n000010010 n000010001 n000000110
      intro s m f hp
      refine H _ _ _ ?_
      refine VBoth.mk ?_ ?_
      · refine (VFact.mk hp.le ?_)
        refine Z _ _ _ [25] ?_
        refine (VFz.mk fun x _ M3 hM hx => ?_)
        refine (VFact.mk (hp.le.trans hM) ?_)
        refine J _ _ [0, 1, 2, 4, 5, 6, 7, 10, 11, 12, 13, 16, 18] _ (hSt true false false false false false true false true { s with M := M3, x1 := x } m f) rfl (Wk.mk' (id) (by repeat' constructor) (by repeat' constructor) (injOK_id _) rfl rfl rfl) ?_
        intro m2
        exact n100000101 _ m2 _ (hp.sb1 hM hx)
      · refine VBoth.mk ?_ ?_
        · refine (VFact.mk hp.le ?_)
          refine Z _ _ _ [31] ?_
          refine (VFz.mk fun x _ M3 hM hx => ?_)
          refine (VFact.mk (hp.le.trans hM) ?_)
          refine J _ _ [0, 1, 4, 5, 6, 7, 8, 10, 11, 12, 13, 16, 18] _ (hSt false false true false false false true false true { s with M := M3, x2 := x } m f) rfl (Wk.mk' (id) (by repeat' constructor) (by repeat' constructor) (injOK_id _) rfl rfl rfl) ?_
          intro m2
          exact n001000101 _ m2 _ (hp.sb2 hM hx)
        · refine VBoth.mk ?_ ?_
          · refine (VFact.mk hp.le ?_)
            refine Z _ _ _ [37] ?_
            refine (VFz.mk fun x _ M3 hM hx => ?_)
            refine (VFact.mk (hp.le.trans hM) ?_)
            refine J _ _ [0, 1, 4, 5, 6, 7, 10, 11, 12, 13, 14, 16, 18] _ (hSt false false false false true false true false true { s with M := M3, x3 := x } m f) rfl (Wk.mk' (id) (by repeat' constructor) (by repeat' constructor) (injOK_id _) rfl rfl rfl) ?_
            intro m2
            exact n000010101 _ m2 _ (hp.sb3 hM hx)
          · refine (VFact.mk hp.le ?_)
            refine J _ _ [0, 1, 4, 5, 6, 7, 10, 11, 12, 13, 16, 17, 18] _ (hSt false false false false false false true true true s m f) rfl (Wk.mk' (fun i => if i = 94 then 100 else i) (by repeat' constructor) (by repeat' constructor) (by simp [injOK, hSt, hOw, ifc]) rfl rfl rfl) ?_
            intro m2
            exact n000000111 _ m2 _ hp
    have n000000011 : ∀ (s : HD) (m f : Mem), HP false false false false false false M2 s → T 10 [0, 1, 4, 5, 6, 7, 10, 11, 12, 13, 17, 18] (hSt false false false false false false false true true s m f) := by
      clear n111000000 n110010000 n110000100 n110000010 n110000001 n101010000 n101000100 n101000010 n101000001 n100010100 n100010010 n100010001 n100000110 n100000101 n001010100 n001010010 n001010001 n001000110 n001000101 n000010110 n000010101 n110000000 n101000000 n100010000 n100000100 n100000010 n100000001 n001010000 n001000100 n001000010 n001000001 n000010100 n000010010 n000010001 n000000110 n000000101
      intro s m f hp
      refine H _ _ _ ?_
      refine VBoth.mk ?_ ?_
      · refine (VFact.mk hp.le ?_)
        refine Z _ _ _ [25] ?_
        refine (VFz.mk fun x _ M3 hM hx => ?_)
        refine (VFact.mk (hp.le.trans hM) ?_)
        refine J _ _ [0, 1, 2, 4, 5, 6, 7, 10, 11, 12, 13, 17, 18] _ (hSt true false false false false false false true true { s with M := M3, x1 := x } m f) rfl (Wk.mk' (id) (by repeat' constructor) (by repeat' constructor) (injOK_id _) rfl rfl rfl) ?_
        intro m2
        exact n100000011 _ m2 _ (hp.sb1 hM hx)
      · refine VBoth.mk ?_ ?_
        · refine (VFact.mk hp.le ?_)
          refine Z _ _ _ [31] ?_
          refine (VFz.mk fun x _ M3 hM hx => ?_)
          refine (VFact.mk (hp.le.trans hM) ?_)
          refine J _ _ [0, 1, 4, 5, 6, 7, 8, 10, 11, 12, 13, 17, 18] _ (hSt false false true false false false false true true { s with M := M3, x2 := x } m f) rfl (Wk.mk' (id) (by repeat' constructor) (by repeat' constructor) (injOK_id _) rfl rfl rfl) ?_
          intro m2
          exact n001000011 _ m2 _ (hp.sb2 hM hx)
        · refine VBoth.mk ?_ ?_
          · refine (VFact.mk hp.le ?_)
            refine Z _ _ _ [37] ?_
            refine (VFz.mk fun x _ M3 hM hx => ?_)
            refine (VFact.mk (hp.le.trans hM) ?_)
            refine J _ _ [0, 1, 4, 5, 6, 7, 10, 11, 12, 13, 14, 17, 18] _ (hSt false false false false true false false true true { s with M := M3, x3 := x } m f) rfl (Wk.mk' (id) (by repeat' constructor) (by repeat' constructor) (injOK_id _) rfl rfl rfl) ?_
            intro m2
            exact n000010011 _ m2 _ (hp.sb3 hM hx)
          · refine (VFact.mk hp.le ?_)
            refine J _ _ [0, 1, 4, 5, 6, 7, 10, 11, 12, 13, 16, 17, 18] _ (hSt false false false false false false true true true s m f) rfl (Wk.mk' (fun i => if i = 93 then 100 else i) (by repeat' constructor) (by repeat' constructor) (by simp [injOK, hSt, hOw, ifc]) rfl rfl rfl) ?_
            intro m2
            exact n000000111 _ m2 _ hp
    clear n111000000 n110010000 n110000100 n110000010 n110000001 n101010000 n101000100 n101000010 n101000001 n100010100 n100010010 n100010001 n100000110 n100000101 n100000011 n001010100 n001010010 n001010001 n001000110 n001000101 n001000011 n000010110 n000010101 n000010011 n000000111
    have n100000000 : ∀ (s : HD) (m f : Mem), HP true false false false false false M2 s → T 11 [0, 1, 2, 4, 5, 6, 7, 10, 11, 12, 13] (hSt true false false false false false false false false s m f) := by
      clear n001010000 n001000100 n001000010 n001000001 n000010100 n000010010 n000010001 n000000110 n000000101 n000000011
      intro s m f hp
      refine H _ _ _ ?_
      refine VBoth.mk ?_ ?_
      · refine (VOwn.frz ?_)
        refine (VFn.mk _ (row_fn 10 s.x1 [spA, spC] s.M (hp.p1 rfl) (i64_of (by decide)) (by decide) (by decide)) ?_)
        rintro rs M3 hM ⟨y, rfl, _, hy⟩
        obtain ⟨a, k, rfl⟩ := hy.shape
        refine (VFact.mk (hp.le.trans hM) ?_)
        refine J _ _ [0, 1, 2, 3, 4, 5, 6, 7, 10, 11, 12, 13] _ (hSt true true false false false false false false false { s with M := M3, a1 := a, k1 := k } m f) rfl (Wk.mk' (id) (by repeat' constructor) (by repeat' constructor) (injOK_id _) rfl rfl rfl) ?_
        intro m2
        exact n110000000 _ m2 _ (hp.sc1 hM hy)
      · refine VBoth.mk ?_ ?_
        · refine (VFact.mk hp.le ?_)
          refine Z _ _ _ [31] ?_
          refine (VFz.mk fun x _ M3 hM hx => ?_)
          refine (VFact.mk (hp.le.trans hM) ?_)
          refine J _ _ [0, 1, 2, 4, 5, 6, 7, 8, 10, 11, 12, 13] _ (hSt true false true false false false false false false { s with M := M3, x2 := x } m f) rfl (Wk.mk' (id) (by repeat' constructor) (by repeat' constructor) (injOK_id _) rfl rfl rfl) ?_
          intro m2
          exact n101000000 _ m2 _ (hp.sb2 hM hx)
        · refine VBoth.mk ?_ ?_
          · refine (VFact.mk hp.le ?_)
            refine Z _ _ _ [37] ?_
            refine (VFz.mk fun x _ M3 hM hx => ?_)
            refine (VFact.mk (hp.le.trans hM) ?_)
            refine J _ _ [0, 1, 2, 4, 5, 6, 7, 10, 11, 12, 13, 14] _ (hSt true false false false true false false false false { s with M := M3, x3 := x } m f) rfl (Wk.mk' (id) (by repeat' constructor) (by repeat' constructor) (injOK_id _) rfl rfl rfl) ?_
            intro m2
            exact n100010000 _ m2 _ (hp.sb3 hM hx)
          · refine VBoth.mk ?_ ?_
            · refine (VFact.mk hp.le ?_)
              refine J _ _ [0, 1, 2, 4, 5, 6, 7, 10, 11, 12, 13, 16] _ (hSt true false false false false false true false false s m f) rfl (Wk.mk' (fun i => if i = 93 then 100 else i) (by repeat' constructor) (by repeat' constructor) (by simp [injOK, hSt, hOw, ifc]) rfl rfl rfl) ?_
              intro m2
              exact n100000100 _ m2 _ hp
            · refine VBoth.mk ?_ ?_
              · refine (VFact.mk hp.le ?_)
                refine J _ _ [0, 1, 2, 4, 5, 6, 7, 10, 11, 12, 13, 17] _ (hSt true false false false false false false true false s m f) rfl (Wk.mk' (fun i => if i = 94 then 100 else i) (by repeat' constructor) (by repeat' constructor) (by simp [injOK, hSt, hOw, ifc]) rfl rfl rfl) ?_
                intro m2
                exact n100000010 _ m2 _ hp
              · refine (VFact.mk hp.le ?_)
                refine J _ _ [0, 1, 2, 4, 5, 6, 7, 10, 11, 12, 13, 18] _ (hSt true false false false false false false false true s m f) rfl (Wk.mk' (fun i => if i = 95 then 100 else i) (by repeat' constructor) (by repeat' constructor) (by simp [injOK, hSt, hOw, ifc]) rfl rfl rfl) ?_
                intro m2
                exact n100000001 _ m2 _ hp
    have n001000000 : ∀ (s : HD) (m f : Mem), HP false false true false false false M2 s → T 11 [0, 1, 4, 5, 6, 7, 8, 10, 11, 12, 13] (hSt false false true false false false false false false s m f) := by
      clear n110000000 n100010000 n100000100 n100000010 n100000001 n000010100 n000010010 n000010001 n000000110 n000000101 n000000011 n100000000
      intro s m f hp
      refine H _ _ _ ?_
      refine VBoth.mk ?_ ?_
      · refine (VFact.mk hp.le ?_)
        refine Z _ _ _ [25] ?_
        refine (VFz.mk fun x _ M3 hM hx => ?_)
        refine (VFact.mk (hp.le.trans hM) ?_)
        refine J _ _ [0, 1, 2, 4, 5, 6, 7, 8, 10, 11, 12, 13] _ (hSt true false true false false false false false false { s with M := M3, x1 := x } m f) rfl (Wk.mk' (id) (by repeat' constructor) (by repeat' constructor) (injOK_id _) rfl rfl rfl) ?_
        intro m2
        exact n101000000 _ m2 _ (hp.sb1 hM hx)
      · refine VBoth.mk ?_ ?_
        · refine (VFact.mk hp.le ?_)
          refine Z _ _ _ [37] ?_
          refine (VFz.mk fun x _ M3 hM hx => ?_)
          refine (VFact.mk (hp.le.trans hM) ?_)
          refine J _ _ [0, 1, 4, 5, 6, 7, 8, 10, 11, 12, 13, 14] _ (hSt false false true false true false false false false { s with M := M3, x3 := x } m f) rfl (Wk.mk' (id) (by repeat' constructor) (by repeat' constructor) (injOK_id _) rfl rfl rfl) ?_
          intro m2
          exact n001010000 _ m2 _ (hp.sb3 hM hx)
        · refine VBoth.mk ?_ ?_
          · refine (VFact.mk hp.le ?_)
            refine J _ _ [0, 1, 4, 5, 6, 7, 8, 10, 11, 12, 13, 16] _ (hSt false false true false false false true false false s m f) rfl (Wk.mk' (fun i => if i = 93 then 100 else i) (by repeat' constructor) (by repeat' constructor) (by simp [injOK, hSt, hOw, ifc]) rfl rfl rfl) ?_
            intro m2
            exact n001000100 _ m2 _ hp
          · refine VBoth.mk ?_ ?_
            · refine (VFact.mk hp.le ?_)
              refine J _ _ [0, 1, 4, 5, 6, 7, 8, 10, 11, 12, 13, 17] _ (hSt false false true false false false false true false s m f) rfl (Wk.mk' (fun i => if i = 94 then 100 else i) (by repeat' constructor) (by repeat' constructor) (by simp [injOK, hSt, hOw, ifc]) rfl rfl rfl) ?_
              intro m2
              exact n001000010 _ m2 _ hp
            · refine (VFact.mk hp.le ?_)
              refine J _ _ [0, 1, 4, 5, 6, 7, 8, 10, 11, 12, 13, 18] _ (hSt false false true false false false false false true s m f) rfl (Wk.mk' (fun i => if i = 95 then 100 else i) (by repeat' constructor) (by repeat' constructor) (by simp [injOK, hSt, hOw, ifc]) rfl rfl rfl) ?_
              intro m2
              exact n001000001 _ m2 _ hp
    have n000010000 : ∀ (s : HD) (m f : Mem), HP false false false false true false M2 s → T 11 [0, 1, 4, 5, 6, 7, 10, 11, 12, 13, 14] (hSt false false false false true false false false false s m f) := by
      clear n110000000 n101000000 n100000100 n100000010 n100000001 n001000100 n001000010 n001000001 n000000110 n000000101 n000000011 n100000000 n001000000
      intro s m f hp
      refine H _ _ _ ?_
      refine VBoth.mk ?_ ?_
      · refine (VFact.mk hp.le ?_)
        refine Z _ _ _ [25] ?_
        refine (VFz.mk fun x _ M3 hM hx => ?_)
        refine (VFact.mk (hp.le.trans hM) ?_)
        refine J _ _ [0, 1, 2, 4, 5, 6, 7, 10, 11, 12, 13, 14] _ (hSt true false false false true false false false false { s with M := M3, x1 := x } m f) rfl (Wk.mk' (id) (by repeat' constructor) (by repeat' constructor) (injOK_id _) rfl rfl rfl) ?_
        intro m2
        exact n100010000 _ m2 _ (hp.sb1 hM hx)
      · refine VBoth.mk ?_ ?_
        · refine (VFact.mk hp.le ?_)
          refine Z _ _ _ [31] ?_
          refine (VFz.mk fun x _ M3 hM hx => ?_)
          refine (VFact.mk (hp.le.trans hM) ?_)
          refine J _ _ [0, 1, 4, 5, 6, 7, 8, 10, 11, 12, 13, 14] _ (hSt false false true false true false false false false { s with M := M3, x2 := x } m f) rfl (Wk.mk' (id) (by repeat' constructor) (by repeat' constructor) (injOK_id _) rfl rfl rfl) ?_
          intro m2
          exact n001010000 _ m2 _ (hp.sb2 hM hx)
        · refine VBoth.mk ?_ ?_
          · refine (VFact.mk hp.le ?_)
            refine J _ _ [0, 1, 4, 5, 6, 7, 10, 11, 12, 13, 14, 16] _ (hSt false false false false true false true false false s m f) rfl (Wk.mk' (fun i => if i = 93 then 100 else i) (by repeat' constructor) (by repeat' constructor) (by simp [injOK, hSt, hOw, ifc]) rfl rfl rfl) ?_
            intro m2
            exact n000010100 _ m2 _ hp
          · refine VBoth.mk ?_ ?_
            · refine (VFact.mk hp.le ?_)
              refine J _ _ [0, 1, 4, 5, 6, 7, 10, 11, 12, 13, 14, 17] _ (hSt false false false false true false false true false s m f) rfl (Wk.mk' (fun i => if i = 94 then 100 else i) (by repeat' constructor) (by repeat' constructor) (by simp [injOK, hSt, hOw, ifc]) rfl rfl rfl) ?_
              intro m2
              exact n000010010 _ m2 _ hp
            · refine (VFact.mk hp.le ?_)
              refine J _ _ [0, 1, 4, 5, 6, 7, 10, 11, 12, 13, 14, 18] _ (hSt false false false false true false false false true s m f) rfl (Wk.mk' (fun i => if i = 95 then 100 else i) (by repeat' constructor) (by repeat' constructor) (by simp [injOK, hSt, hOw, ifc]) rfl rfl rfl) ?_
              intro m2
              exact n000010001 _ m2 _ hp
    have n000000100 : ∀ (s : HD) (m f : Mem), HP false false false false false false M2 s → T 11 [0, 1, 4, 5, 6, 7, 10, 11, 12, 13, 16] (hSt false false false false false false true false false s m f) := by
      clear n110000000 n101000000 n100010000 n100000010 n100000001 n001010000 n001000010 n001000001 n000010010 n000010001 n000000011 n100000000 n001000000 n000010000
      intro s m f hp
      refine H _ _ _ ?_
      refine VBoth.mk ?_ ?_
      · refine (VFact.mk hp.le ?_)
        refine Z _ _ _ [25] ?_
        refine (VFz.mk fun x _ M3 hM hx => ?_)
        refine (VFact.mk (hp.le.trans hM) ?_)
        refine J _ _ [0, 1, 2, 4, 5, 6, 7, 10, 11, 12, 13, 16] _ (hSt true false false false false false true false false { s with M := M3, x1 := x } m f) rfl (Wk.mk' (id) (by repeat' constructor) (by repeat' constructor) (injOK_id _) rfl rfl rfl) ?_
        intro m2
        exact n100000100 _ m2 _ (hp.sb1 hM hx)
      · refine VBoth.mk ?_ ?_
        · refine (VFact.mk hp.le ?_)
          refine Z _ _ _ [31] ?_
          refine (VFz.mk fun x _ M3 hM hx => ?_)
          refine (VFact.mk (hp.le.trans hM) ?_)
          refine J _ _ [0, 1, 4, 5, 6, 7, 8, 10, 11, 12, 13, 16] _ (hSt false false true false false false true false false { s with M := M3, x2 := x } m f) rfl (Wk.mk' (id) (by repeat' constructor) (by repeat' constructor) (injOK_id _) rfl rfl rfl) ?_
          intro m2
          exact n001000100 _ m2 _ (hp.sb2 hM hx)
        · refine VBoth.mk ?_ ?_
          · refine (VFact.mk hp.le ?_)
            refine Z _ _ _ [37] ?_
            refine (VFz.mk fun x _ M3 hM hx => ?_)
            refine (VFact.mk (hp.le.trans hM) ?_)
            refine J _ _ [0, 1, 4, 5, 6, 7, 10, 11, 12, 13, 14, 16] _ (hSt false false false false true false true false false { s with M := M3, x3 := x } m f) rfl (Wk.mk' (id) (by repeat' constructor) (by repeat' constructor) (injOK_id _) rfl rfl rfl) ?_
            intro m2
            exact n000010100 _ m2 _ (hp.sb3 hM hx)
          · refine VBoth.mk ?_ ?_
            · refine (VFact.mk hp.le ?_)
              refine J _ _ [0, 1, 4, 5, 6, 7, 10, 11, 12, 13, 16, 17] _ (hSt false false false false false false true true false s m f) rfl (Wk.mk' (fun i => if i = 94 then 100 else i) (by repeat' constructor) (by repeat' constructor) (by simp [injOK, hSt, hOw, ifc]) rfl rfl rfl) ?_
              intro m2
              exact n000000110 _ m2 _ hp
            · refine (VFact.mk hp.le ?_)
              refine J _ _ [0, 1, 4, 5, 6, 7, 10, 11, 12, 13, 16, 18] _ (hSt false false false false false false true false true s m f) rfl (Wk.mk' (fun i => if i = 95 then 100 else i) (by repeat' constructor) (by repeat' constructor) (by simp [injOK, hSt, hOw, ifc]) rfl rfl rfl) ?_
              intro m2
              exact n000000101 _ m2 _ hp
    have n000000010 : ∀ (s : HD) (m f : Mem), HP false false false false false false M2 s → T 11 [0, 1, 4, 5, 6, 7, 10, 11, 12, 13, 17] (hSt false false false false false false false true false s m f) := by
      clear n110000000 n101000000 n100010000 n100000100 n100000001 n001010000 n001000100 n001000001 n000010100 n000010001 n000000101 n100000000 n001000000 n000010000 n000000100
      intro s m f hp
      refine H _ _ _ ?_
      refine VBoth.mk ?_ ?_
      · refine (VFact.mk hp.le ?_)
        refine Z _ _ _ [25] ?_
        refine (VFz.mk fun x _ M3 hM hx => ?_)
        refine (VFact.mk (hp.le.trans hM) ?_)
        refine J _ _ [0, 1, 2, 4, 5, 6, 7, 10, 11, 12, 13, 17] _ (hSt true false false false false false false true false { s with M := M3, x1 := x } m f) rfl (Wk.mk' (id) (by repeat' constructor) (by repeat' constructor) (injOK_id _) rfl rfl rfl) ?_
        intro m2
        exact n100000010 _ m2 _ (hp.sb1 hM hx)
      · refine VBoth.mk ?_ ?_
        · refine (VFact.mk hp.le ?_)
          refine Z _ _ _ [31] ?_
          refine (VFz.mk fun x _ M3 hM hx => ?_)
          refine (VFact.mk (hp.le.trans hM) ?_)
          refine J _ _ [0, 1, 4, 5, 6, 7, 8, 10, 11, 12, 13, 17] _ (hSt false false true false false false false true false { s with M := M3, x2 := x } m f) rfl (Wk.mk' (id) (by repeat' constructor) (by repeat' constructor) (injOK_id _) rfl rfl rfl) ?_
          intro m2
          exact n001000010 _ m2 _ (hp.sb2 hM hx)
        · refine VBoth.mk ?_ ?_
          · refine (VFact.mk hp.le ?_)
            refine Z _ _ _ [37] ?_
            refine (VFz.mk fun x _ M3 hM hx => ?_)
            refine (VFact.mk (hp.le.trans hM) ?_)
            refine J _ _ [0, 1, 4, 5, 6, 7, 10, 11, 12, 13, 14, 17] _ (hSt false false false false true false false true false { s with M := M3, x3 := x } m f) rfl (Wk.mk' (id) (by repeat' constructor) (by repeat' constructor) (injOK_id _) rfl rfl rfl) ?_
            intro m2
            exact n000010010 _ m2 _ (hp.sb3 hM hx)
          · refine VBoth.mk ?_ ?_
            · refine (VFact.mk hp.le ?_)
              refine J _ _ [0, 1, 4, 5, 6, 7, 10, 11, 12, 13, 16, 17] _ (hSt false false false false false false true true false s m f) rfl (Wk.mk' (fun i => if i = 93 then 100 else i) (by repeat' constructor) (by repeat' constructor) (by simp [injOK, hSt, hOw, ifc]) rfl rfl rfl) ?_
              intro m2
              exact n000000110 _ m2 _ hp
            · refine (VFact.mk hp.le ?_)
              refine J _ _ [0, 1, 4, 5, 6, 7, 10, 11, 12, 13, 17, 18] _ (hSt false false false false false false false true true s m f) rfl (Wk.mk' (fun i => if i = 95 then 100 else i) (by repeat' constructor) (by repeat' constructor) (by simp [injOK, hSt, hOw, ifc]) rfl rfl rfl) ?_
              intro m2
              exact n000000011 _ m2 _ hp
    have n000000001 : ∀ (s : HD) (m f : Mem), HP false false false false false false M2 s → T 11 [0, 1, 4, 5, 6, 7, 10, 11, 12, 13, 18] (hSt false false false false false false false false true s m f) := by
      clear n110000000 n101000000 n100010000 n100000100 n100000010 n001010000 n001000100 n001000010 n000010100 n000010010 n000000110 n100000000 n001000000 n000010000 n000000100 n000000010
      intro s m f hp
      refine H _ _ _ ?_
      refine VBoth.mk ?_ ?_
      · refine (VFact.mk hp.le ?_)
        refine Z _ _ _ [25] ?_
        refine (VFz.mk fun x _ M3 hM hx => ?_)
        refine (VFact.mk (hp.le.trans hM) ?_)
        refine J _ _ [0, 1, 2, 4, 5, 6, 7, 10, 11, 12, 13, 18] _ (hSt true false false false false false false false true { s with M := M3, x1 := x } m f) rfl (Wk.mk' (id) (by repeat' constructor) (by repeat' constructor) (injOK_id _) rfl rfl rfl) ?_
        intro m2
        exact n100000001 _ m2 _ (hp.sb1 hM hx)
      · refine VBoth.mk ?_ ?_
        · refine (VFact.mk hp.le ?_)
          refine Z _ _ _ [31] ?_
          refine (VFz.mk fun x _ M3 hM hx => ?_)
          refine (VFact.mk (hp.le.trans hM) ?_)
          refine J _ _ [0, 1, 4, 5, 6, 7, 8, 10, 11, 12, 13, 18] _ (hSt false false true false false false false false true { s with M := M3, x2 := x } m f) rfl (Wk.mk' (id) (by repeat' constructor) (by repeat' constructor) (injOK_id _) rfl rfl rfl) ?_
          intro m2
          exact n001000001 _ m2 _ (hp.sb2 hM hx)
        · refine VBoth.mk ?_ ?_
          · refine (VFact.mk hp.le ?_)
            refine Z _ _ _ [37] ?_
            refine (VFz.mk fun x _ M3 hM hx => ?_)
            refine (VFact.mk (hp.le.trans hM) ?_)
            refine J _ _ [0, 1, 4, 5, 6, 7, 10, 11, 12, 13, 14, 18] _ (hSt false false false false true false false false true { s with M := M3, x3 := x } m f) rfl (Wk.mk' (id) (by repeat' constructor) (by repeat' constructor) (injOK_id _) rfl rfl rfl) ?_
            intro m2
            exact n000010001 _ m2 _ (hp.sb3 hM hx)
          · refine VBoth.mk ?_ ?_
            · refine (VFact.mk hp.le ?_)
              refine J _ _ [0, 1, 4, 5, 6, 7, 10, 11, 12, 13, 16, 18] _ (hSt false false false false false false true false true s m f) rfl (Wk.mk' (fun i => if i = 93 then 100 else i) (by repeat' constructor) (by repeat' constructor) (by simp [injOK, hSt, hOw, ifc]) rfl rfl rfl) ?_
              intro m2
              exact n000000101 _ m2 _ hp
            · refine (VFact.mk hp.le ?_)
              refine J _ _ [0, 1, 4, 5, 6, 7, 10, 11, 12, 13, 17, 18] _ (hSt false false false false false false false true true s m f) rfl (Wk.mk' (fun i => if i = 94 then 100 else i) (by repeat' constructor) (by repeat' constructor) (by simp [injOK, hSt, hOw, ifc]) rfl rfl rfl) ?_
              intro m2
              exact n000000011 _ m2 _ hp
    refine H _ _ _ ?_
    repeat (first | refine VIf.tt ?_ | refine VIf.ff ?_)
    refine VReads.mk [.int .i64 100, .int .i64 200] rfl rA ?_
    repeat (first | refine VIf.tt ?_ | refine VIf.ff ?_)
    refine VReads.mk [.int .i64 150, .int .i64 300] rfl rC ?_
    repeat (first | refine VIf.tt ?_ | refine VIf.ff ?_)
    refine VReads.mk [.int .i64 100, .int .i64 200] rfl rA ?_
    repeat (first | refine VIf.tt ?_ | refine VIf.ff ?_)
    refine VReads.mk [.int .i64 100, .int .i64 200] rfl rA ?_
    repeat (first | refine VIf.tt ?_ | refine VIf.ff ?_)
    refine VReads.mk [.int .i64 150, .int .i64 300] rfl rC ?_
    repeat (first | refine VIf.tt ?_ | refine VIf.ff ?_)
    refine VReads.mk [.int .i64 100, .int .i64 200] rfl rA ?_
    repeat (first | refine VIf.tt ?_ | refine VIf.ff ?_)
    refine VReads.mk [.int .i64 100, .int .i64 200] rfl rA ?_
    repeat (first | refine VIf.tt ?_ | refine VIf.ff ?_)
    refine VReads.mk [.int .i64 100, .int .i64 200] rfl rA ?_
    repeat (first | refine VIf.tt ?_ | refine VIf.ff ?_)
    refine VReads.mk [.int .i64 150, .int .i64 300] rfl rC ?_
    obtain ⟨s, hs, hp⟩ : ∃ s : HD, s.M = M2 ∧ HP false false false false false false M2 s := ⟨⟨M2, M2, undef, undef, undef, none, 0, none, 0, 0, 0, #[], 0⟩, rfl, ⟨Mem.le_refl _, fun h => (by cases h), fun h => (by cases h), fun h => (by cases h), fun h => (by cases h), fun h => (by cases h), fun h => (by cases h)⟩⟩
    subst hs
    obtain ⟨m, f, _⟩ : ∃ m f : Mem, m = f := ⟨fun _ => none, _, rfl⟩
    refine VBoth.mk ?_ ?_
    · refine (VFact.mk hp.le ?_)
      refine Z _ _ _ [25] ?_
      refine (VFz.mk fun x _ M3 hM hx => ?_)
      refine (VFact.mk (hp.le.trans hM) ?_)
      refine J _ _ [0, 1, 2, 4, 5, 6, 7, 10, 11, 12, 13] _ (hSt true false false false false false false false false { s with M := M3, x1 := x } m f) rfl (Wk.mk' (id) (by repeat' constructor) (by repeat' constructor) (injOK_id _) rfl rfl rfl) ?_
      intro m2
      exact n100000000 _ m2 _ (hp.sb1 hM hx)
    · refine VBoth.mk ?_ ?_
      · refine (VFact.mk hp.le ?_)
        refine Z _ _ _ [31] ?_
        refine (VFz.mk fun x _ M3 hM hx => ?_)
        refine (VFact.mk (hp.le.trans hM) ?_)
        refine J _ _ [0, 1, 4, 5, 6, 7, 8, 10, 11, 12, 13] _ (hSt false false true false false false false false false { s with M := M3, x2 := x } m f) rfl (Wk.mk' (id) (by repeat' constructor) (by repeat' constructor) (injOK_id _) rfl rfl rfl) ?_
        intro m2
        exact n001000000 _ m2 _ (hp.sb2 hM hx)
      · refine VBoth.mk ?_ ?_
        · refine (VFact.mk hp.le ?_)
          refine Z _ _ _ [37] ?_
          refine (VFz.mk fun x _ M3 hM hx => ?_)
          refine (VFact.mk (hp.le.trans hM) ?_)
          refine J _ _ [0, 1, 4, 5, 6, 7, 10, 11, 12, 13, 14] _ (hSt false false false false true false false false false { s with M := M3, x3 := x } m f) rfl (Wk.mk' (id) (by repeat' constructor) (by repeat' constructor) (injOK_id _) rfl rfl rfl) ?_
          intro m2
          exact n000010000 _ m2 _ (hp.sb3 hM hx)
        · refine VBoth.mk ?_ ?_
          · refine (VFact.mk hp.le ?_)
            refine J _ _ [0, 1, 4, 5, 6, 7, 10, 11, 12, 13, 16] _ (hSt false false false false false false true false false s m f) rfl (Wk.mk' (fun i => if i = 93 then 2 else i) (by repeat' constructor) (by repeat' constructor) (by simp [injOK, hSt, hOw, ifc]) rfl rfl rfl) ?_
            intro m2
            exact n000000100 _ m2 _ hp
          · refine VBoth.mk ?_ ?_
            · refine (VFact.mk hp.le ?_)
              refine J _ _ [0, 1, 4, 5, 6, 7, 10, 11, 12, 13, 17] _ (hSt false false false false false false false true false s m f) rfl (Wk.mk' (fun i => if i = 94 then 2 else i) (by repeat' constructor) (by repeat' constructor) (by simp [injOK, hSt, hOw, ifc]) rfl rfl rfl) ?_
              intro m2
              exact n000000010 _ m2 _ hp
            · refine (VFact.mk hp.le ?_)
              refine J _ _ [0, 1, 4, 5, 6, 7, 10, 11, 12, 13, 18] _ (hSt false false false false false false false false true s m f) rfl (Wk.mk' (fun i => if i = 95 then 2 else i) (by repeat' constructor) (by repeat' constructor) (by simp [injOK, hSt, hOw, ifc]) rfl rfl rfl) ?_
              intro m2
              exact n000000001 _ m2 _ hp
  · rintro s m hp
    have o := hp.y3 rfl
    have wle := Mem.wo_le o.le o.no
    have y1 : CelsV (s.M.wo s.B) (.slice s.a1 2 s.k1) oldH.cs := o.y1.le wle
    have y2 : CelsV (s.M.wo s.B) (.slice s.a2 4 s.k2) nexH.cs := o.y2.le wle
    have h1 : Cha (s.M.wo s.B) oldH (.slice s.a1 2 s.k1) nilV nilV := chaH y1 (by decide)
    have h2 : Cha (s.M.wo s.B) nexH (.slice s.a2 4 s.k2) nilV nilV := chaH y2 (by decide)
    have one : ∀ v ∈ cellsC othH.cs, v.oneCell' = true := List.all_eq_true.1 (by rfl)
    repeat (first | refine VIf.tt ?_ | refine VIf.ff ?_)
    refine VOwn.own ?_
    refine VCall.thawB (M := s.M) rfl (g := 3) (B := s.B) (touchH_1 h1 h2) rfl o.at' rfl o.hn o.hc o.hs (xs := cellsC othH.cs) o.ht one (i := 2) (bt := 26) [.v (.int .i64 1), .v (.int .i64 0), .v (.int .i64 0), .v (.int .i64 4), .v (.int .i64 1), .v (.int .i64 5), .row 4, .v nilV, .v nilV] rfl rfl rfl ?_
    rintro rs M3 hM3 ⟨l, rfl, hl⟩
    have hM3 : (s.M.wo s.B).le M3 := hM3
    repeat (first | refine VIf.tt ?_ | refine VIf.ff ?_)
    refine VOwn.frz ?_
    repeat (first | refine VIf.tt ?_ | refine VIf.ff ?_)
    refine VFz.mk fun x1 _ M4 hM4 hx1 => ?_
    have i1 : IntsV M4 x1 [1, 2] := IntsV.of hx1 (by decide)
    repeat (first | refine VIf.tt ?_ | refine VIf.ff ?_)
    refine VFn.mk _ (cellsH_1 (h1.le (hM3.trans hM4)) (h2.le (hM3.trans hM4)) i1) ?_
    rintro rs M5 hM5 ⟨mm, rfl, hmm⟩
    have m5 := hM3.trans (hM4.trans hM5)
    have hl5 := hl.le (hM4.trans hM5)
    repeat (first | refine VIf.tt ?_ | refine VIf.ff ?_)
    refine VOwn.own ?_
    refine VCall.frzB (M := M5) rfl (keepsH_1 (h1.le m5) (h2.le m5)).1 4 rfl (by decide) (fun B arr c hz => keepsH_1 (h1.le (m5.trans hz.le)) (h2.le (m5.trans hz.le))) ?_
    rintro B arr cp hz rs M6 hM6 rfl
    have y3 : CelsV M6 (.slice (some ⟨B, 0, none⟩) 4 cp) othH.cs := CelsV.of (SlAt.le hM6 hz.sl) (by decide)
    have m6 := m5.trans (hz.le.trans hM6)
    have h3 : Cha M6 othH (.slice (some ⟨B, 0, none⟩) 4 cp) nilV nilV := chaH y3 (by decide)
    obtain ⟨xs0, ex0⟩ : ∃ xs, cellsC othH.cs = xs := ⟨_, rfl⟩
    have one0 : ∀ v ∈ xs0, v.oneCell' = true := by rw [← ex0]; exact one
    repeat (first | refine VIf.tt ?_ | refine VIf.ff ?_)
    refine VOwn.own ?_
    refine VCall.thaw (M := M6) (keepsH_2 (h1.le m6) h3) rfl (g := 6) (B := B) rfl (hM6 _ _ hz.at') rfl hz.hn hz.hc hz.hs (xs := xs0) (hz.ht.trans ex0) one0 (i := 2) (bt := 26) [.v (.int .i64 1), .v (.int .i64 0), .v (.int .i64 0), .v (.int .i64 4), .v (.int .i64 1), .v (.int .i64 5), .row 7, .v nilV, .v nilV] rfl rfl rfl ?_
    rintro rs M7 hM7 rfl
    have w7 := Mem.wo_le (hz.le.trans (hM6.trans hM7)) hz.hB
    have m7 := m5.trans w7
    have hl7 := hl5.le w7
    have hmm7 := hmm.le w7
    exact ⟨⟨M7.wo B, l, mm, s.a1, s.k1, s.a2, s.k2, s.Et, xs0⟩, ⟨hl7, hmm7, h1.le m7, h2.le m7, ex0⟩, Wk.mk' (fun i => if i = 3 then 7 else i) (by repeat' constructor) (by repeat' constructor) (by simp [injOK, fSt]) rfl rfl rfl⟩
end Go.Proofs.YtegmjmdkhbibjaaGreat
