/- Contract: hull.around. -/
import Derived.Test.YtcdlplobniogpaaGreatHa6
set_option linter.unusedVariables false
set_option linter.unusedSimpArgs false
namespace Go.Proofs.YtcdlplobniogpaaGreat
open Go Go.V Go.RowKit
def backL (ps : List Pt) : List (List Value) := (List.range ps.length).map fun (j : Nat) => [.int .i64 ((ps.length : Int) - 1 - (j : Int)), ptv (gp ps (ps.length - 1 - j))]
theorem Backward_fn (ad : Option Addr) (n c : Nat) (M : Mem) : V.Fn Tryz.prog 181 [.slice ad n c] M fun rs M' => ∃ B, rs = [.func (.func 191) #[] #[.pointer (some ⟨B, 0, none⟩)]] ∧ M' B = some (.cells #[.slice ad n c] 64 (0, 0)) := by
 refine Fn.of_vc cxOK Tryz.func181 rfl rfl rfl ?_
 refine VFzB.mk fun x B M' hle hB => ?_
 exact VFact.mk ⟨B, rfl, hB⟩ trivial
theorem Backward_iter (M : Mem) (B : Nat) (v : Value) (ps : List Pt) (hB : M B = some (.cells #[v] 64 (0, 0))) (hv : Pts M v ps) :
  Iter Tryz.prog 191 #[.pointer (some ⟨B, 0, none⟩)] M (backL ps) := by
 obtain ⟨ad, c, rfl⟩ := hv.shape
 obtain ⟨_, hm, hrd⟩ := hv.cellsOf
 unfold maxLen at hm
 refine Iter.of_vc cxOK Tryz.func191 rfl rfl rfl rfl fun l => ?_
 refine VRead.mk _ (box1 hB) ?_
 conv => whnf
 refine VArith.ok (by first | omega | (simp only; omega)) (by first | omega | (simp only; omega)) ?_
 refine VCode.loopG cxOK (fun m => m = fun _ => none) rfl (Nat × Int)
  (fun s => ⟨[(0, .v (.func (.yield l) #[] #[])), (1, .v (.pointer (some ⟨B, 0, none⟩))), (3, .v (.int .i64 s.2))], [], 0, M, 19, ⟨fun _ => none, some (l, (backL ps).drop s.1), fun _ => none⟩⟩)
  (fun s => s.1 ≤ ps.length ∧ s.2 = (ps.length : Int) - 1 - (s.1 : Int)) (fun s => ps.length - s.1) (0, (ps.length : Int) - 1) ⟨Nat.zero_le _, by simp⟩ (Wk.mk' id (by repeat' constructor) (by repeat' constructor) (injOK_id _) rfl rfl rfl) ?_
 rintro ⟨i, z⟩ ⟨hi, hz⟩ m rfl
 have hi : i ≤ ps.length := hi
 have hz : z = (ps.length : Int) - 1 - (i : Int) := hz
 refine VIf.mk (fun hlt => ?_) (fun hge => ?_)
 ·have hlt : i < ps.length := by have := of_decide_eq_true hlt; omega
  obtain ⟨ad', ead, hpi⟩ := hrd M (Mem.le_refl _) (ps.length - 1 - i) (by omega)
  refine VRead.mk _ (box1 hB) ?_
  conv => whnf
  refine VIdx.mk ad' (ps.length - 1 - i) ead (by omega) (by omega) ?_
  refine VReads.mk [.int .i64 (gp ps (ps.length - 1 - i)).1, .int .i64 (gp ps (ps.length - 1 - i)).2] rfl hpi ?_
  refine VYield.mk ((backL ps).drop (i + 1)) ?_ ?_ ?_
  ·simp only [Gh.mk.injEq, and_true, true_and, Option.some.injEq, Prod.mk.injEq]
   rw [List.drop_eq_getElem_cons (by simpa [backL] using hlt)]
   simp [backL, ptv, pt, hz]
  ·repeat (first | refine VIf.tt ?_ | refine VIf.ff ?_)
   refine VArith.ok (by first | omega | (simp only; omega)) (by first | omega | (simp only; omega)) ?_
   exact ⟨rfl, (i + 1, z - 1), ⟨hlt, by simp only; omega⟩, (by first | omega | (simp only; omega)), (Wk.mk' id (by repeat' constructor) (by repeat' constructor) (injOK_id _) rfl rfl rfl)⟩
  ·refine VIf.tt ?_
   exact VEnd.stop rfl
 ·have hge : i = ps.length := by have := of_decide_eq_false hge; omega
  subst hge
  refine VEnd.all ?_
  simp [backL]
theorem backL_get {ps : List Pt} {k : Nat} {args : List Value} (h : (backL ps)[k]? = some args) : k < ps.length ∧ args = [.int .i64 ((ps.length : Int) - 1 - k), ptv (gp ps (ps.length - 1 - k))] := by
 simp only [backL, List.getElem?_map] at h
 cases hr : (List.range ps.length)[k]? with
 | none => rw [hr] at h; cases h
 | some i =>
  rw [hr] at h
  simp only [Option.map_some, Option.some.injEq] at h
  obtain ⟨h1, h2⟩ := List.getElem?_eq_some_iff.1 hr
  simp at h1 h2
  subst h2
  exact ⟨h1, h.symm⟩
theorem fold_mem : ∀ (l C : List Pt), ∀ {S : List Pt}, (∀ p ∈ C, p ∈ S) → ∀ p ∈ l.foldl pushR C, p ∈ S ∨ p ∈ l
 | [], C, S, h, p, hp => .inl (h p hp)
 | x :: l, C, S, h, p, hp => by
  simp only [List.foldl_cons] at hp
  rcases fold_mem l (pushR C x) (S := x :: S) (fun q hq => by
   rcases List.mem_cons.1 hq with rfl | hq
   ·simp
   ·exact List.mem_cons_of_mem _ (h q (popR_mem _ _ _ hq))) p hp with h1 | h1
  ·rcases List.mem_cons.1 h1 with rfl | h1
   ·exact .inr (by simp)
   ·exact .inl h1
  ·exact .inr (List.mem_cons_of_mem _ h1)
theorem fold_mem0 {l : List Pt} {p : Pt} (hp : p ∈ l.foldl pushR []) : p ∈ l := by
 rcases fold_mem l [] (S := []) (fun _ h => h) p hp with h | h
 ·cases h
 ·exact h
theorem fold_len : ∀ (l C : List Pt), (l.foldl pushR C).length ≤ C.length + l.length
 | [], C => by simp
 | x :: l, C => by
  have h1 := fold_len l (pushR C x)
  have h2 := popR_len C x
  have h3 : (pushR C x).length = (popR C x).length + 1 := rfl
  simp only [List.foldl_cons, List.length_cons]
  omega
theorem fold_pos : ∀ (l C : List Pt), l ≠ [] ∨ C ≠ [] → 0 < (l.foldl pushR C).length
 | [], C, h => by
  rcases h with h | h
  ·exact absurd rfl h
  ·exact List.length_pos_iff.2 h
 | x :: l, C, _ => by
  simp only [List.foldl_cons]
  exact fold_pos l _ (.inr (by simp [pushR]))
theorem SlAt.some {M : Mem} {sz n c : Nat} {ad : Option Addr} {xs : List Value} (h : SlAt M sz (.slice ad n c) n xs) (hn : 0 < n) : ∃ a, ad = .some a := by
 obtain ⟨a', c1, e, h1, h2, h3, h4, h5⟩ := h
 cases e
 obtain ⟨a, e, _⟩ := h5 hn
 exact ⟨a, e⟩
theorem SlAt.pre {M M' : Mem} (hM : M.le M') {ad : Option Addr} {c : Nat} {A : List Pt} (h : SlAt M 2 (.slice ad A.length c) A.length (cellsP A.reverse)) (hA : 0 < A.length) :
  A.length ≤ c ∧ ∀ c', (c' = A.length - 1 ∨ c' = c) → SlAt M' 2 (.slice ad (A.length - 1) c') (A.length - 1) (cellsP A.tail.reverse) := by
 obtain ⟨a', c1, e, h1, h2, h3, h4, h5⟩ := h
 cases e
 refine ⟨h1, fun c' hc' => ?_⟩
 have hle : A.length - 1 ≤ c' := by omega
 have e : cellsP A.tail.reverse = (cellsP A.reverse).take ((A.length - 1) * 2) := by
  rw [cellsP_take]
  cases A with
  | nil => rfl
  | cons x r => simp
 refine ⟨ad, c', rfl, hle, by omega, by rw [cellsP_length]; simp, fun v hv => h4 v (by rw [e] at hv; exact List.mem_of_mem_take hv), fun hpos => ?_⟩
 obtain ⟨ad', rfl, hrd⟩ := h5 (by omega)
 refine ⟨ad', rfl, fun j v hj => Mem.cell_le hM (hrd j v ?_)⟩
 rw [e, List.getElem?_take] at hj
 split at hj
 ·exact hj
 ·cases hj
def aroundP (ps : List Pt) : List Pt := if (compactP (sortP ps)).length < 3 then compactP (sortP ps) else lowP (compactP (sortP ps)) ++ highP (compactP (sortP ps))
set_option maxHeartbeats 1000000 in
theorem around_fn (v : Value) (ps : List Pt) (M : Mem) (hv : Pts M v ps) (hn : 1 ≤ ps.length) (hn' : ps.length ≤ 4000) (hC : ∀ p ∈ ps, isC p.1 ∧ isC p.2) : V.Fn Tryz.prog 147 [v] M fun rs M' => ∃ u, rs = [u] ∧ Pts M' u (aroundP ps) := by
 obtain ⟨ad, c, rfl⟩ := hv.shape
 refine Fn.of_vc cxIOK Tryz.func147 rfl rfl rfl ?_
 refine VOwn.own ?_
 refine VCall.wk (st1 := ⟨[], [], 0, M, 54, ⟨fun _ => none, none, fun _ => none⟩⟩) (args1 := [.v (.slice ad ps.length c)]) id rfl rfl (by repeat' constructor) (by repeat' constructor) (injOK_id _) rfl rfl rfl ?_
 refine Clone_call hv hn (by omega) ?_
 refine VOwn.own ?_
 refine Sort_call (ps := ps) rfl rfl rfl (by omega) ?_
 refine VOwn.own ?_
 refine VCall.wk (st1 := ⟨[], [(0, some (.row 44 2 ps.length (cellsP (sortP ps))))], 1, M, 54, ⟨fun _ => none, none, fun _ => none⟩⟩) (args1 := [.row 0]) id rfl rfl (by repeat' constructor) (by repeat' constructor) (injOK_id _) rfl rfl rfl ?_
 refine Compact_call (ps := sortP ps) (by simp [sortP]) rfl (by simp [sortP]; omega) ?_
 have hlen : (compactP (sortP ps)).length ≤ 4000 := by
  have := comp_len (sortP ps) (sortP ps).length
  have e : (sortP ps).length = ps.length := by simp [sortP]
  unfold compactP; omega
 have hS : ∀ p ∈ compactP (sortP ps), isC p.1 ∧ isC p.2 := fun p hp => by
  simp only [compactP, comp, List.mem_map, List.mem_filter, List.mem_range] at hp
  obtain ⟨i, ⟨hi, _⟩, rfl⟩ := hp
  have : gp (sortP ps) i ∈ sortP ps := gp_mem hi
  exact hC _ (by simpa [sortP] using this)
 unfold aroundP
 generalize compactP (sortP ps) = s at *
 refine VIf.mk (fun h => ?_) (fun h => ?_)
 ·have h : s.length < 3 := by have := of_decide_eq_true h; omega
  rw [if_pos h]
  refine VFz.mk fun x B M' hle hx => ?_
  exact VFact.mk ⟨x, rfl, hx⟩ trivial
 have h : ¬ s.length < 3 := by have := of_decide_eq_false h; omega
 rw [if_neg h]
 refine VCode.loop cxIOK Nat
  (fun k => ⟨[(4, .box 0 0), (5, .box 2 0), (6, .box 4 0), (22, .row 5), (3, .row 5), (23, .v (.int .i64 s.length)), (24, .v (.int .i64 k))],
   [(0, some (.box 201 [.row 1])), (1, some (.row 44 2 ((s.take k).foldl pushR []).length (cellsP ((s.take k).foldl pushR []).reverse))), (2, some (.box 201 [.row 3])), (3, some (.row 44 2 0 [])), (4, some (.box 202 [.clo 180 [.box 0 0] []])), (5, some (.row 44 2 s.length (cellsP s)))], 6, M, 54, ⟨fun _ => none, none, fun _ => none⟩⟩)
  (fun k => k ≤ s.length) (fun k => s.length - k) 0 (Nat.zero_le _) ?_ ?_
 ·refine Wk.nilBox 1 201 [] [] 44 2 rfl ?_
  refine Wk.nilBox 2 201 [] [] 44 2 rfl ?_
  refine Wk.mk' (fun i => if i = 0 then 1 else if i = 1 then 4 else if i = 2 then 2 else if i = 3 then 5 else if i = 4 then 3 else 0) (by repeat' constructor) (by repeat' constructor) (injOK_b rfl) rfl rfl rfl
 ·rintro k hk m
  have hk : k ≤ s.length := hk
  refine VIf.mk (fun hlt => ?_) (fun hge => ?_)
  ·have hlt : k < s.length := lt_of_dec hlt
   have hCm : ∀ p ∈ (s.take k).foldl pushR [], isC p.1 ∧ isC p.2 := fun p hp => hS p (List.mem_of_mem_take (fold_mem0 hp))
   have hCl : ((s.take k).foldl pushR []).length ≤ 100000 := by
    have := fold_len (s.take k) []
    simp at this; omega
   refine VIdxR.mk k rfl hlt ?_
   refine VCells.mk [.int .i64 (gp s k).1, .int .i64 (gp s k).2] rfl (rowP_get s hlt) ?_
   refine VOwn.own ?_
   refine VCall.wk (st1 := ⟨[(4, .box 0 0), (5, .box 2 0), (6, .box 4 0), (22, .row 5), (3, .row 5), (23, .v (.int .i64 s.length)), (24, .v (.int .i64 k))],
    [(0, some (.box 201 [.row 1])), (1, some (.row 44 2 ((s.take k).foldl pushR []).length (cellsP ((s.take k).foldl pushR []).reverse))), (2, some (.box 201 [.row 3])), (3, some (.row 44 2 0 [])), (4, some (.box 202 [.clo 180 [.box 0 0] []])), (5, some (.row 44 2 s.length (cellsP s)))], 6, M, 54, ⟨m, none, fun _ => none⟩⟩) (args1 := [.box 0 0, .v (ptv (gp s k))]) id rfl rfl (by repeat' constructor) (by repeat' constructor) (injOK_id _) rfl rfl rfl ?_
   refine Push_call0 rfl rfl hCl hCm (hS _ (gp_mem hlt)) ?_
   refine VArith.ok (by first | omega | (simp only; omega)) (by first | omega | (simp only; omega)) ?_
   have e : (s.take (k + 1)).foldl pushR [] = pushR ((s.take k).foldl pushR []) (gp s k) := by
    have : s[k]? = some (gp s k) := by simp [gp, hlt]
    rw [List.take_add_one, List.foldl_append, this]; rfl
   have e1 := congrArg List.length e
   have e2 := congrArg (fun l : List Pt => cellsP l.reverse) e
   exact ⟨k + 1, hlt, (by first | omega | (simp only; omega)), Wk.mk' id (by repeat' constructor) (by repeat' (first | exact e1.symm | exact e2.symm | exact e1 | exact e2 | constructor)) (injOK_id _) rfl rfl rfl⟩
  ·have : k = s.length := by have := ge_of_dec hge; omega
   subst this
   rw [List.take_length]
   refine VOwn.frz ?_
   refine VFz.mk fun x B M1 hle hx => ?_
   obtain ⟨xd, xc, rfl⟩ := SlAt.shape hx
   refine VFn.mk _ (Backward_fn xd s.length xc M1) ?_
   rintro rs M2 hM2 ⟨B2, rfl, hB2⟩
   refine VCode.rangeB cxIOK rfl (Backward_iter M2 B2 _ s hB2 (hx.le hM2)) (fun x hx => ?_) [(4, .box 0 0), (5, .box 2 0), (6, .box 4 0)] rfl (by kernel_rfl) (by kernel_rfl) Unit
    (fun k _ => ⟨[(4, .box 0 0), (5, .box 2 0), (6, .box 4 0)],
     [(2, some (.box 201 [.row 3])), (3, some (.row 44 2 ((s.reverse.take k).foldl pushR []).length (cellsP ((s.reverse.take k).foldl pushR []).reverse))), (0, some (.box 201 [.row 1])), (1, some (.row 44 2 (s.foldl pushR []).length (cellsP (s.foldl pushR []).reverse))), (4, some (.box 202 [.clo 180 [.box 2 0] []]))], 5, M2, 54, ⟨fun _ => none, none, fun _ => none⟩⟩)
    (fun k _ => k ≤ s.length) () (Nat.zero_le _) ?_ (fun k s => ⟨rfl, rfl⟩) ?_ ?_
   ·obtain ⟨i, hi⟩ := List.getElem?_of_mem hx
    obtain ⟨_, rfl⟩ := backL_get hi
    rfl
   ·refine Wk.mk' id (by repeat' constructor) (by repeat' constructor) (injOK_id _) rfl rfl rfl
   ·rintro k _ args hk hxs m f
    obtain ⟨hk', rfl⟩ := backL_get hxs
    intro m'
    have hCm : ∀ p ∈ (s.reverse.take k).foldl pushR [], isC p.1 ∧ isC p.2 := fun p hp => hS p (List.mem_reverse.1 (List.mem_of_mem_take (fold_mem0 hp)))
    have hCl : ((s.reverse.take k).foldl pushR []).length ≤ 100000 := by
     have := fold_len (s.reverse.take k) []
     simp at this; omega
    refine VOwn.own ?_
    refine VCall.wk (st1 := ⟨[(4, .box 0 0), (5, .box 2 0), (6, .box 4 0)],
     [(2, some (.box 201 [.row 3])), (3, some (.row 44 2 ((s.reverse.take k).foldl pushR []).length (cellsP ((s.reverse.take k).foldl pushR []).reverse))), (0, some (.box 201 [.row 1])), (1, some (.row 44 2 (s.foldl pushR []).length (cellsP (s.foldl pushR []).reverse))), (4, some (.box 202 [.clo 180 [.box 2 0] []]))], 5, M2, 54, ⟨m', none, f⟩⟩) (args1 := [.box 2 0, .v (ptv (gp s (s.length - 1 - k)))]) id rfl rfl (by repeat' constructor) (by repeat' constructor) (injOK_id _) rfl rfl rfl ?_
    refine Push_call2 rfl rfl hCl hCm (hS _ (gp_mem (by omega))) ?_
    have e : (s.reverse.take (k + 1)).foldl pushR [] = pushR ((s.reverse.take k).foldl pushR []) (gp s (s.length - 1 - k)) := by
     have : s.reverse[k]? = some (gp s (s.length - 1 - k)) := by
      have h1 : s.length - 1 - k < s.length := by omega
      simp [gp, List.getElem?_reverse, hk', h1]
     rw [List.take_add_one, List.foldl_append, this]; rfl
    have e1 := congrArg List.length e
    have e2 := congrArg (fun l : List Pt => cellsP l.reverse) e
    exact ⟨(), hk', Wk.mk' id (by repeat' constructor) (by repeat' (first | exact e1.symm | exact e2.symm | exact e1 | exact e2 | constructor)) (injOK_id _) rfl rfl rfl⟩
   ·rintro _ m hk
    have hl : (backL s).length = s.length := by simp [backL]
    rw [hl]
    refine VDraw.frz [4, 5] (by kernel_rfl) ?_
    refine VFz.mk fun x1 B1 M3 hM3 hx1 => ?_
    obtain ⟨a1, c1, rfl⟩ := SlAt.shape hx1
    obtain ⟨a1, rfl⟩ := SlAt.some hx1 (fold_pos s [] (.inl (by intro e; subst e; simp at h)))
    refine VFzB.mk fun x1' C1 M4 hM4 hC1 => ?_
    refine VFz.mk fun x2 B2 M5 hM5 hx2 => ?_
    obtain ⟨a2, c2, rfl⟩ := SlAt.shape hx2
    refine VFzB.mk fun x2' C2 M6 hM6 hC2 => ?_
    have k1 : M6.cell ⟨C1, 0, none⟩ = some (.slice (some a1) (s.foldl pushR []).length c1) := by
     have := (hM5.trans hM6) _ _ hC1
     simp [Mem.cell, this]
    have k2 : M6.cell ⟨C2, 0, none⟩ = some (.slice a2 ((s.reverse.take s.length).foldl pushR []).length c2) := by
     simp [Mem.cell, hC2]
    refine VRead.mk _ k1 ?_
    refine VRead.mk _ k1 ?_
    rw [List.take_of_length_le (show s.reverse.length ≤ s.length by simp)] at hx2 k2 ⊢
    have n1 := fold_pos s [] (.inl (by intro e; subst e; simp at h))
    have n2 := fold_pos s.reverse [] (.inl (by intro e; simp at e; subst e; simp at h))
    have b1 := fold_len s []
    have b2 := fold_len s.reverse []
    simp only [List.length_nil, List.length_reverse, Nat.zero_add] at b1 b2
    have p1 := SlAt.pre (((hM4.trans hM5).trans hM6)) hx1 n1
    have p2 := SlAt.pre hM6 hx2 n2
    generalize hA : s.foldl pushR [] = A at *
    generalize hB : s.reverse.foldl pushR [] = B at *
    refine VArith.ok (by first | omega | (simp only; omega)) (by first | omega | (simp only; omega)) ?_
    refine VRead.mk _ k1 ?_
    refine VArith.ok (by first | omega | (simp only; omega)) (by first | omega | (simp only; omega)) ?_
    refine VBnd.mk (A.length - 1) (by omega) (by omega) ?_
    refine VBnd.mk (A.length - 1) (by omega) (Nat.le_refl _) ?_
    refine VRead.mk _ k2 ?_
    refine VRead.mk _ k2 ?_
    refine VArith.ok (by first | omega | (simp only; omega)) (by first | omega | (simp only; omega)) ?_
    refine VBnd.mk (B.length - 1) (by omega) (by omega) ?_
    refine VSl.mk (A.length - 1) (cellsP A.tail.reverse) (p1.2 _ (.inl rfl)) ?_
    refine VFact.mk rfl ?_
    refine VSl.mk (B.length - 1) (cellsP B.tail.reverse) (p2.2 _ (.inr rfl)) ?_
    refine VFact.mk (by simp only; omega) ?_
    have e1 : lowP s = A.tail.reverse := by unfold lowP; rw [hA]
    have e2 : highP s = B.tail.reverse := by unfold highP; rw [hB]
    refine VFact.mk (fun hz => ?_) (fun hp => ?_)
    ·refine VFact.mk ⟨_, rfl, ?_⟩ trivial
     have hz' : B.tail = [] := List.eq_nil_of_length_eq_zero (by rw [List.length_tail]; omega)
     rw [e1, e2, hz', List.reverse_nil, List.append_nil]
     have := p1.2 _ (.inl rfl)
     unfold Pts
     rw [show A.tail.reverse.length = A.length - 1 by simp]
     exact this
    ·refine VFz.mk fun x B9 M' hle hx => ?_
     refine VFact.mk ⟨x, rfl, ?_⟩ trivial
     rw [e1, e2]
     unfold Pts
     have : cellsP (A.tail.reverse ++ B.tail.reverse) = cellsP A.tail.reverse ++ cellsP B.tail.reverse := by simp [cellsP]
     rw [this, show (A.tail.reverse ++ B.tail.reverse).length = A.length - 1 + (B.length - 1) by simp]
     exact hx
end Go.Proofs.YtcdlplobniogpaaGreat
namespace Go.Proofs.YtcdlplobniogpaaGreat
open Go
theorem cmp_lex {a b : Pt} : cmpPt a b < 0 ↔ lexLt a b := by
 constructor
 ·exact fun h => cmp_lt h
 ·intro h
  have := lessB_iff a b
  have h2 : lessB a b = true := by
   unfold lexLt at h
   simp only [lessB, Bool.or_eq_true, Bool.and_eq_true, decide_eq_true_eq, beq_iff_eq]
   exact h
  rw [h2] at this
  exact of_decide_eq_true this.symm
inductive Hl (S p : List Pt) : Prop
 | one (a : Pt) (hp : p = [a]) (hS : ∀ y ∈ S, y = a) (ha : a ∈ S)
 | many (h : Cyc S p)
theorem crossP_b (a b : Pt) : crossP a b b = 0 := by unfold crossP cross; grind
theorem crossP_a (a b : Pt) : crossP a b a = 0 := by unfold crossP cross; grind
theorem betw_l (a b : Pt) : betwB a b a = true := by simp only [betwB, decide_eq_true_eq]; omega
theorem betw_r (a b : Pt) : betwB a b b = true := by simp only [betwB, decide_eq_true_eq]; omega
theorem Hl.mem {S p : List Pt} (h : Hl S p) {i : Nat} (hi : i < p.length) : gp p i ∈ S := by
 cases h with
 | one a hp hS ha => subst hp; simp at hi; subst hi; exact ha
 | many h => exact (h.side i hi).1
theorem Hl.sub {S p : List Pt} (h : Hl S p) : ∀ x ∈ p, x ∈ S := fun x hx => by
 obtain ⟨i, hi, rfl⟩ := mem_gp hx
 exact h.mem hi
theorem Hl.pos {S p : List Pt} (h : Hl S p) : 1 ≤ p.length := by
 cases h with
 | one a hp hS ha => subst hp; simp
 | many h => have := h.two; omega
theorem Cyc.restrict {S T p : List Pt} (h : Cyc S p) (hT : ∀ x ∈ T, x ∈ S) (hp : ∀ x ∈ p, x ∈ T) : Cyc T p :=
 ⟨h.two, fun y hy => h.fst y (hT y hy), h.inj, fun i hi => E_sub (h.side i hi) hT (hp _ (gp_mem hi)) (hp _ (gp_mem (Nat.mod_lt _ (by omega))))⟩
theorem Hl.restrict {S T p : List Pt} (h : Hl S p) (hT : ∀ x ∈ T, x ∈ S) (hp : ∀ x ∈ p, x ∈ T) : Hl T p := by
 cases h with
 | one a hp' hS ha => exact .one a hp' (fun y hy => hS y (hT y hy)) (hp a (by rw [hp']; simp))
 | many h => exact .many (h.restrict hT hp)
theorem Hl.congr {S T p : List Pt} (h : Hl S p) (hT : ∀ x, x ∈ T ↔ x ∈ S) : Hl T p := h.restrict (fun x hx => (hT x).1 hx) fun x hx => (hT x).2 (h.sub x hx)
theorem Hl.unique {S p q : List Pt} (h : Hl S p) (k : Hl S q) : p = q := by
 cases h with
 | one a hp hS ha =>
  cases k with
  | one b hq hS' hb => rw [hp, hq, hS b hb]
  | many k =>
   exfalso
   have h2 := k.two
   obtain ⟨e1, e2, e3, _⟩ := k.side 0 (by omega)
   exact e3 ((hS _ e1).trans (hS _ e2).symm)
 | many h =>
  cases k with
  | one b hq hS' hb =>
   exfalso
   have h2 := h.two
   obtain ⟨e1, e2, e3, _⟩ := h.side 0 (by omega)
   exact e3 ((hS' _ e1).trans (hS' _ e2).symm)
  | many k => exact cyc_unique h k
theorem Cyc.strict {S p : List Pt} (h : Cyc S p) {i k : Nat} (hi : i < p.length) (hk : k < p.length) (h1 : k ≠ i) (h2 : k ≠ (i + 1) % p.length) : 0 < crossP (gp p i) (gp p ((i + 1) % p.length)) (gp p k) := by
 have hn := h.two
 obtain ⟨a1, a2, a3, a4⟩ := h.side i hi
 obtain ⟨b1, b2, b3, b4⟩ := h.side k hk
 have ne : ∀ {j l : Nat}, j < p.length → l < p.length → j ≠ l → gp p j ≠ gp p l := fun {j l} hj hl hne e => by
  rcases Nat.lt_or_gt_of_ne hne with h' | h'
  ·exact h.inj _ _ h' hl e
  ·exact h.inj _ _ h' hj e.symm
 have n1 := ne hk hi h1
 have n2 := ne hk (Nat.mod_lt _ (by omega)) h2
 rcases a4 (gp p k) b1 with g | ⟨g, gb⟩
 ·exact g
 exfalso
 have q1 := b4 _ a1
 have q2 := b4 _ a2
 generalize gp p i = a at *
 generalize gp p ((i + 1) % p.length) = b at *
 generalize gp p k = c at *
 generalize gp p ((k + 1) % p.length) = d at *
 -- c lies on the line between a and b; a and b lie on opposite sides of it, so on the line to d; but between c and d
 simp only [betwB, decide_eq_true_eq] at gb q1 q2
 have s1 : crossP c d a * (b.1 - c.1) = - (crossP c d b * (c.1 - a.1)) - (d.1 - c.1) * crossP a b c := by clear a4 b4 q1 q2 gb; unfold crossP cross; grind
 have s2 : crossP c d a * (b.2 - c.2) = - (crossP c d b * (c.2 - a.2)) - (d.2 - c.2) * crossP a b c := by clear a4 b4 q1 q2 gb; unfold crossP cross; grind
 rw [g, Int.mul_zero, Int.sub_zero] at s1 s2
 have p1 : 0 ≤ crossP c d a := by rcases q1 with h | h <;> omega
 have p2 : 0 ≤ crossP c d b := by rcases q2 with h | h <;> omega
 have t1 : ∀ X Y : Int, 0 ≤ X → 0 ≤ Y → ∀ u v : Int, 0 < u → 0 < v → X * u = - (Y * v) → X = 0 ∧ Y = 0 := by
  intro X Y hX hY u v hu hv e
  have m1 := Int.mul_nonneg hX (Int.le_of_lt hu)
  have m2 := Int.mul_nonneg hY (Int.le_of_lt hv)
  have z1 : X * u = 0 := by omega
  have z2 : Y * v = 0 := by omega
  rcases Int.mul_eq_zero.1 z1 with h | h <;> rcases Int.mul_eq_zero.1 z2 with k | k <;> omega
 have z : crossP c d a = 0 ∧ crossP c d b = 0 := by
  rcases Int.lt_trichotomy a.1 b.1 with hx | hx | hx
  ·
   by_cases e1 : c.1 = a.1
   ·exfalso
    have : crossP a b c = (b.1 - a.1) * (c.2 - a.2) := by unfold crossP cross; rw [e1]; grind
    rw [g] at this
    rcases Int.mul_eq_zero.1 this.symm with h | h
    ·omega
    ·exact n1 (Prod.ext e1 (by omega))
   by_cases e2 : c.1 = b.1
   ·exfalso
    have : crossP a b c = (b.1 - a.1) * (c.2 - b.2) := by unfold crossP cross; rw [e2]; grind
    rw [g] at this
    rcases Int.mul_eq_zero.1 this.symm with h | h
    ·omega
    ·exact n2 (Prod.ext e2 (by omega))
   exact t1 _ _ p1 p2 (b.1 - c.1) (c.1 - a.1) (by omega) (by omega) s1
  ·have e1 : c.1 = a.1 := by omega
   have ny1 : c.2 ≠ a.2 := fun e => n1 (Prod.ext e1 e)
   have ny2 : c.2 ≠ b.2 := fun e => n2 (Prod.ext (by omega) e)
   rcases Int.lt_trichotomy a.2 b.2 with hy | hy | hy
   ·exact t1 _ _ p1 p2 (b.2 - c.2) (c.2 - a.2) (by omega) (by omega) s2
   ·omega
   ·exact t1 _ _ p1 p2 (c.2 - b.2) (a.2 - c.2) (by omega) (by omega) (by
     have e1 : c.2 - b.2 = - (b.2 - c.2) := by omega
     have e2 : a.2 - c.2 = - (c.2 - a.2) := by omega
     rw [e1, e2, Int.mul_neg, Int.mul_neg, s2])
  ·by_cases e1 : c.1 = a.1
   ·exfalso
    have : crossP a b c = (b.1 - a.1) * (c.2 - a.2) := by unfold crossP cross; rw [e1]; grind
    rw [g] at this
    rcases Int.mul_eq_zero.1 this.symm with h | h
    ·omega
    ·exact n1 (Prod.ext e1 (by omega))
   by_cases e2 : c.1 = b.1
   ·exfalso
    have : crossP a b c = (b.1 - a.1) * (c.2 - b.2) := by unfold crossP cross; rw [e2]; grind
    rw [g] at this
    rcases Int.mul_eq_zero.1 this.symm with h | h
    ·omega
    ·exact n2 (Prod.ext e2 (by omega))
   exact t1 _ _ p1 p2 (c.1 - b.1) (a.1 - c.1) (by omega) (by omega) (by
    have e1 : c.1 - b.1 = - (b.1 - c.1) := by omega
    have e2 : a.1 - c.1 = - (c.1 - a.1) := by omega
    rw [e1, e2, Int.mul_neg, Int.mul_neg, s1])
 have w1 : c ≠ a := n1
 have w2 : c ≠ b := n2
 have hab : a ≠ b := a3
 rcases q1 with h | ⟨_, q1⟩
 ·omega
 rcases q2 with h | ⟨_, q2⟩
 ·omega
 -- c is between a and b, and both are between c and d
 have x1 : c.1 = a.1 ∨ c.1 = b.1 := by omega
 have x2 : c.2 = a.2 ∨ c.2 = b.2 := by omega
 have f1 : crossP a b c = (b.1 - a.1) * (c.2 - a.2) - (b.2 - a.2) * (c.1 - a.1) := rfl
 rw [g] at f1
 rcases x1 with x1 | x1
 ·rcases x2 with x2 | x2
  ·exact w1 (Prod.ext x1 x2)
  ·rw [x1, x2, Int.sub_self, Int.mul_zero, Int.sub_zero] at f1
   rcases Int.mul_eq_zero.1 f1.symm with h | h
   ·exact w2 (Prod.ext (by omega) x2)
   ·exact w1 (Prod.ext x1 (by omega))
 ·rcases x2 with x2 | x2
  ·rw [x1, x2, Int.sub_self, Int.mul_zero, Int.zero_sub] at f1
   have f1 : (b.2 - a.2) * (b.1 - a.1) = 0 := by omega
   rcases Int.mul_eq_zero.1 f1 with h | h
   ·exact w2 (Prod.ext x1 (by omega))
   ·exact w1 (Prod.ext (by omega) x2)
  ·exact w2 (Prod.ext x1 x2)
theorem Hl.valid {S p : List Pt} (h : Hl S p) (hS : ∀ x ∈ S, placeB x = true) (hl : p.length ≤ 64) : validB p = true := by
 have hpos := h.pos
 have hm : ∀ {i : Nat}, i < p.length → gp p i ∈ S := fun hi => h.mem hi
 cases h with
 | one a hp hS' ha =>
  subst hp
  have := hS a ha
  simp [validB, v1B, gp, this]
 | many h =>
  have hn := h.two
  simp only [validB, Bool.and_eq_true, Bool.or_eq_true, decide_eq_true_eq, all_iff, v1B, v3B, v2B, beq_iff_eq]
  refine ⟨⟨⟨hpos, hl⟩, fun i hi => ⟨hS _ (hm hi), ?_⟩⟩, .inr fun i hi k hk => ?_⟩
  ·by_cases e : i = 0
   ·exact .inl e
   ·refine .inr (cmp_lex.2 ?_)
    rcases lexLe_cases (h.fst _ (hm hi)) with g | g
    ·exact g
    ·exact absurd g (h.inj 0 i (by omega) hi)
  ·by_cases e1 : k = i
   ·exact .inl (.inl (by rw [e1]))
   by_cases e2 : k = (i + 1) % p.length
   ·exact .inl (.inr (by rw [e2]))
   exact .inr (h.strict hi hk e1 e2)
theorem Hl.has {S p : List Pt} (h : Hl S p) {x : Pt} (hx : x ∈ S) : hasB p x = true := by
 cases h with
 | one a hp hS' ha => subst hp; simp [hasB, gp, hS' x hx]
 | many h =>
  have hn := h.two
  unfold hasB
  rw [if_neg (by omega)]
  have hs : ∀ i, i < p.length → 0 < crossP (gp p i) (gp p ((i + 1) % p.length)) x ∨ crossP (gp p i) (gp p ((i + 1) % p.length)) x = 0 ∧ betwB (gp p i) (gp p ((i + 1) % p.length)) x = true := fun i hi => (h.side i hi).2.2.2 x hx
  by_cases h2 : p.length = 2
  ·rw [if_pos h2]
   have s0 := hs 0 (by omega)
   have s1 := hs 1 (by omega)
   rw [Nat.mod_eq_of_lt (by omega)] at s0
   rw [h2] at s1
   have e : crossP (gp p 1) (gp p ((1 + 1) % 2)) x = - crossP (gp p 0) (gp p 1) x := cross_flip _ _ _
   rw [e] at s1
   rw [Nat.zero_add] at s0
   simp only [Bool.and_eq_true, decide_eq_true_eq]
   rcases s0 with s0 | ⟨s0, b0⟩
   ·rcases s1 with s1 | ⟨s1, _⟩ <;> omega
   ·exact ⟨s0, b0⟩
  ·rw [if_neg h2]
   refine all_true fun i hi => ?_
   simp only [sideB, decide_eq_true_eq]
   rcases hs i hi with g | ⟨g, _⟩ <;> omega
theorem hl_of_valid {p : List Pt} (h : validB p = true) : Hl p p := by
 have h' := h
 obtain ⟨l1, l2⟩ := len_one h
 by_cases h1 : p.length = 1
 ·match p, h1 with
  | [a], _ => exact .one a rfl (by simp) (by simp)
 have inj : ∀ i j, i < j → j < p.length → gp p i ≠ gp p j := by
  intro i j hij hj
  by_cases h3 : p.length < 3
  ·have : i = 0 := by omega
   subst this
   exact fun e => lt_ne (valid_first h hij hj) e.symm
  ·refine corners_ne (n := p.length) (g := gp p) (fun i hi0 hi => lt_ne (valid_first h hi0 hi)) (fun i hi k hk => ?_) i j hij hj
   exact valid_side h h3 hi hk
 have fst : ∀ y ∈ p, lexLe (gp p 0) y := fun y hy => by
  obtain ⟨i, hi, rfl⟩ := mem_gp hy
  by_cases e : i = 0
  ·subst e; exact lexLe_refl _
  ·exact lexLe_of_lt (cmp_lex.1 (valid_first h (by omega) hi))
 refine .many ⟨by omega, fst, inj, fun i hi => ?_⟩
 have hi' : (i + 1) % p.length < p.length := Nat.mod_lt _ (by omega)
 have hne : gp p i ≠ gp p ((i + 1) % p.length) := by
  by_cases e : i + 1 < p.length
  ·rw [Nat.mod_eq_of_lt e]; exact inj _ _ (by omega) e
  ·rw [show i + 1 = p.length by omega, Nat.mod_self]
   exact fun e => inj 0 i (by omega) hi e.symm
 refine ⟨gp_mem hi, gp_mem hi', hne, fun y hy => ?_⟩
 obtain ⟨k, hk, rfl⟩ := mem_gp hy
 have cases3 : gp p k = gp p i ∨ gp p k = gp p ((i + 1) % p.length) ∨ 0 < crossP (gp p i) (gp p ((i + 1) % p.length)) (gp p k) := by
  by_cases h3 : p.length < 3
  ·have : k = i ∨ k = (i + 1) % p.length := by
    have h2 : p.length = 2 := by omega
    rw [h2]
    omega
   rcases this with e | e
   ·exact .inl (by rw [e])
   ·exact .inr (.inl (by rw [e]))
  ·exact valid_side h h3 hi hk
 rcases cases3 with e | e | e
 ·rw [e]; exact .inr ⟨crossP_a _ _, betw_l _ _⟩
 ·rw [e]; exact .inr ⟨crossP_b _ _, betw_r _ _⟩
 ·exact .inl e
end Go.Proofs.YtcdlplobniogpaaGreat
namespace Go.Proofs.YtcdlplobniogpaaGreat
open Go
theorem place_bd {p : Pt} (h : placeB p = true) : -500000 ≤ p.1 ∧ p.1 ≤ 500000 ∧ -500000 ≤ p.2 ∧ p.2 ≤ 500000 := by
 simp only [placeB, Bool.and_eq_true] at h
 have h1 := isCb_iff.1 h.1
 have h2 := isCb_iff.1 h.2
 unfold isC at *
 exact ⟨h1.1, h1.2, h2.1, h2.2⟩
theorem valid_place {p : List Pt} (h : validB p = true) {i : Nat} (hi : i < p.length) : placeB (gp p i) = true := by
 simp only [validB, Bool.and_eq_true, all_iff, v1B] at h
 exact (h.1.2 i hi).1
theorem has_bd {p : List Pt} (h : validB p = true) {x : Pt} (hx : hasB p x = true) : -500000 ≤ x.1 ∧ x.1 ≤ 500000 ∧ -500000 ≤ x.2 ∧ x.2 ≤ 500000 := by
 have hb : ∀ i, i < p.length → -500000 ≤ (gp p i).1 ∧ (gp p i).1 ≤ 500000 ∧ -500000 ≤ (gp p i).2 ∧ (gp p i).2 ≤ 500000 := fun i hi => place_bd (valid_place h hi)
 have e1 := at_corners h hx 1 0 500000 (fun i hi => by have := hb i hi; unfold aff; omega)
 have e2 := at_corners h hx (-1) 0 500000 (fun i hi => by have := hb i hi; unfold aff; omega)
 have e3 := at_corners h hx 0 1 500000 (fun i hi => by have := hb i hi; unfold aff; omega)
 have e4 := at_corners h hx 0 (-1) 500000 (fun i hi => by have := hb i hi; unfold aff; omega)
 unfold aff at e1 e2 e3 e4
 omega
theorem has_place {p : List Pt} (h : validB p = true) {x : Pt} (hx : hasB p x = true) : placeB x = true := by
 have := has_bd h hx
 simp only [placeB, isCb, Bool.and_eq_true, decide_eq_true_eq]
 omega
def dotP (a b x : Pt) : Int := (x.1 - a.1) * (b.1 - a.1) + (x.2 - a.2) * (b.2 - a.2)
theorem dot_aff (C : Int) (a b x : Pt) : C * crossP a b x + dotP a b x = aff (C * (-(b.2 - a.2)) + (b.1 - a.1)) (C * (b.1 - a.1) + (b.2 - a.2)) (C * ((b.2 - a.2) * a.1 - (b.1 - a.1) * a.2) - a.1 * (b.1 - a.1) - a.2 * (b.2 - a.2)) x := by
 unfold crossP cross dotP aff; grind
theorem mul_bdg {a b A B : Int} (ha : -A ≤ a) (ha' : a ≤ A) (hb : -B ≤ b) (hb' : b ≤ B) : -(A * B) ≤ a * b ∧ a * b ≤ A * B := by
 have h1 := Int.mul_nonneg (show 0 ≤ A - a by omega) (show 0 ≤ B + b by omega)
 have h2 := Int.mul_nonneg (show 0 ≤ A + a by omega) (show 0 ≤ B - b by omega)
 have h3 := Int.mul_nonneg (show 0 ≤ A - a by omega) (show 0 ≤ B - b by omega)
 have h4 := Int.mul_nonneg (show 0 ≤ A + a by omega) (show 0 ≤ B + b by omega)
 have e1 : (A - a) * (B + b) = A * B + A * b - a * B - a * b := by grind
 have e2 : (A + a) * (B - b) = A * B - A * b + a * B - a * b := by grind
 have e3 : (A - a) * (B - b) = A * B - A * b - a * B + a * b := by grind
 have e4 : (A + a) * (B + b) = A * B + A * b + a * B + a * b := by grind
 omega
theorem dot_bd {a b x : Pt} (ha : placeB a = true) (hb : placeB b = true) (hx : placeB x = true) : -2000000000000 ≤ dotP a b x ∧ dotP a b x ≤ 2000000000000 := by
 have h1 := place_bd ha
 have h2 := place_bd hb
 have h3 := place_bd hx
 have m1 := mul_bdg (a := x.1 - a.1) (b := b.1 - a.1) (A := 1000000) (B := 1000000) (by omega) (by omega) (by omega) (by omega)
 have m2 := mul_bdg (a := x.2 - a.2) (b := b.2 - a.2) (A := 1000000) (B := 1000000) (by omega) (by omega) (by omega) (by omega)
 unfold dotP
 omega
theorem betw_of_dot {a b x : Pt} (hab : a ≠ b) (hz : crossP a b x = 0) (h1 : 0 ≤ dotP a b x) (h2 : 0 ≤ dotP b a x) : betwB a b x = true := by
 have i1 : (x.1 - a.1) * ((b.1 - a.1) * (b.1 - a.1) + (b.2 - a.2) * (b.2 - a.2)) = (b.1 - a.1) * dotP a b x - (b.2 - a.2) * crossP a b x := by unfold dotP crossP cross; grind
 have i2 : (x.2 - a.2) * ((b.1 - a.1) * (b.1 - a.1) + (b.2 - a.2) * (b.2 - a.2)) = (b.2 - a.2) * dotP a b x + (b.1 - a.1) * crossP a b x := by unfold dotP crossP cross; grind
 have i3 : (b.1 - x.1) * ((b.1 - a.1) * (b.1 - a.1) + (b.2 - a.2) * (b.2 - a.2)) = (b.1 - a.1) * dotP b a x + (b.2 - a.2) * crossP a b x := by unfold dotP crossP cross; grind
 have i4 : (b.2 - x.2) * ((b.1 - a.1) * (b.1 - a.1) + (b.2 - a.2) * (b.2 - a.2)) = (b.2 - a.2) * dotP b a x - (b.1 - a.1) * crossP a b x := by unfold dotP crossP cross; grind
 rw [hz, Int.mul_zero] at i1 i2 i3 i4
 have hN : 0 < (b.1 - a.1) * (b.1 - a.1) + (b.2 - a.2) * (b.2 - a.2) := by
  have sq : ∀ z : Int, 0 ≤ z * z ∧ (z ≠ 0 → 0 < z * z) := fun z => by
   rcases Int.lt_trichotomy z 0 with h | h | h
   ·have := Int.mul_pos_of_neg_of_neg h h; omega
   ·subst h; simp
   ·have := Int.mul_pos h h; omega
  have s1 := sq (b.1 - a.1)
  have s2 := sq (b.2 - a.2)
  by_cases e1 : b.1 - a.1 = 0
  ·by_cases e2 : b.2 - a.2 = 0
   ·exact absurd (Prod.ext (by omega) (by omega)) hab
   ·have := s2.2 e2; omega
  ·have := s1.2 e1; omega
 generalize (b.1 - a.1) * (b.1 - a.1) + (b.2 - a.2) * (b.2 - a.2) = N at *
 have pos : ∀ u : Int, 0 ≤ u * N → 0 ≤ u := fun u h => pos_of_mul hN (by rw [Int.mul_comm]; exact h)
 have neg : ∀ u : Int, u * N ≤ 0 → u ≤ 0 := fun u h => by
  have := pos (-u) (by rw [Int.neg_mul]; omega)
  omega
 simp only [betwB, decide_eq_true_eq]
 have mm : ∀ u v : Int, 0 ≤ v → (0 ≤ u → 0 ≤ u * v) ∧ (u ≤ 0 → u * v ≤ 0) := fun u v hv => ⟨fun hu => Int.mul_nonneg hu hv, fun hu => Int.mul_nonpos_of_nonpos_of_nonneg hu hv⟩
 have X1 : (0 ≤ b.1 - a.1 → 0 ≤ x.1 - a.1 ∧ 0 ≤ b.1 - x.1) ∧ (b.1 - a.1 ≤ 0 → x.1 - a.1 ≤ 0 ∧ b.1 - x.1 ≤ 0) :=
  ⟨fun h => ⟨pos _ (by rw [i1]; have := (mm _ _ h1).1 h; omega), pos _ (by rw [i3]; have := (mm _ _ h2).1 h; omega)⟩,
   fun h => ⟨neg _ (by rw [i1]; have := (mm _ _ h1).2 h; omega), neg _ (by rw [i3]; have := (mm _ _ h2).2 h; omega)⟩⟩
 have X2 : (0 ≤ b.2 - a.2 → 0 ≤ x.2 - a.2 ∧ 0 ≤ b.2 - x.2) ∧ (b.2 - a.2 ≤ 0 → x.2 - a.2 ≤ 0 ∧ b.2 - x.2 ≤ 0) :=
  ⟨fun h => ⟨pos _ (by rw [i2]; have := (mm _ _ h1).1 h; omega), pos _ (by rw [i4]; have := (mm _ _ h2).1 h; omega)⟩,
   fun h => ⟨neg _ (by rw [i2]; have := (mm _ _ h1).2 h; omega), neg _ (by rw [i4]; have := (mm _ _ h2).2 h; omega)⟩⟩
 omega
theorem hl_of_has {T p : List Pt} (hv : validB p = true) (hT : ∀ y ∈ T, hasB p y = true) (hp : ∀ y ∈ p, y ∈ T) : Hl T p := by
 have hs := hl_of_valid hv
 have hpl : ∀ i, i < p.length → placeB (gp p i) = true := fun i hi => valid_place hv hi
 cases hs with
 | one a hpa hS ha =>
  subst hpa
  refine .one a rfl (fun y hy => ?_) (hp a (by simp))
  have := hT y hy
  simp [hasB, gp] at this
  exact this.symm
 | many h =>
  have hn := h.two
  refine .many ⟨hn, fun y hy => ?_, h.inj, fun i hi => ?_⟩
  ·have hy' := hT y hy
   have b := has_bd hv hy'
   have b0 := place_bd (hpl 0 (by omega))
   have := at_corners hv hy' 2000001 1 (-(2000001 * (gp p 0).1) - (gp p 0).2) (fun i hi => by
    have g := h.fst _ (gp_mem hi)
    have b1 := place_bd (hpl i hi)
    unfold lexLe at g
    unfold aff
    omega)
   unfold aff at this
   unfold lexLe
   omega
  ·have hi' : (i + 1) % p.length < p.length := Nat.mod_lt _ (by omega)
   obtain ⟨e1, e2, e3, e4⟩ := h.side i hi
   refine ⟨hp _ e1, hp _ e2, e3, fun y hy => ?_⟩
   have hy' := hT y hy
   have yp := has_place hv hy'
   have cr0 : 0 ≤ crossP (gp p i) (gp p ((i + 1) % p.length)) y := by
    have := at_corners hv hy' _ _ _ (fun k hk => by
     rw [← cross_aff (gp p i) (gp p ((i + 1) % p.length))]
     rcases e4 _ (gp_mem hk) with g | ⟨g, _⟩ <;> omega)
    rw [← cross_aff] at this
    exact this
   rcases Int.lt_or_eq_of_le cr0 with g | g
   ·exact .inl g
   refine .inr ⟨g.symm, betw_of_dot e3 g.symm ?_ ?_⟩
   ·have := at_corners hv hy' _ _ _ (fun k hk => by
     rw [← dot_aff 10000000000000 (gp p i) (gp p ((i + 1) % p.length))]
     have bd := dot_bd (hpl i hi) (hpl _ hi') (hpl k hk)
     rcases e4 _ (gp_mem hk) with g | ⟨g, gb⟩
     ·omega
     ·have : 0 ≤ dotP (gp p i) (gp p ((i + 1) % p.length)) (gp p k) := by
       simp only [betwB, decide_eq_true_eq] at gb
       unfold dotP
       generalize gp p i = a at *
       generalize gp p ((i + 1) % p.length) = b at *
       generalize gp p k = c at *
       have m : ∀ u v w : Int, min u v ≤ w → w ≤ max u v → 0 ≤ (w - u) * (v - u) := fun u v w h1 h2 => by
        rcases Int.le_total u v with h | h
        ·exact Int.mul_nonneg (by omega) (by omega)
        ·exact Int.mul_nonneg_of_nonpos_of_nonpos (by omega) (by omega)
       have := m a.1 b.1 c.1 gb.1 gb.2.1
       have := m a.2 b.2 c.2 gb.2.2.1 gb.2.2.2
       omega
      omega)
    rw [← dot_aff, ← g] at this
    omega
   ·have hz : crossP (gp p ((i + 1) % p.length)) (gp p i) y = 0 := by rw [cross_flip, ← g]; rfl
    have := at_corners hv hy' _ _ _ (fun k hk => by
     rw [← dot_aff (-10000000000000) (gp p ((i + 1) % p.length)) (gp p i), cross_flip]
     have bd := dot_bd (hpl _ hi') (hpl i hi) (hpl k hk)
     rcases e4 _ (gp_mem hk) with g | ⟨g, gb⟩
     ·omega
     ·have : 0 ≤ dotP (gp p ((i + 1) % p.length)) (gp p i) (gp p k) := by
       simp only [betwB, decide_eq_true_eq] at gb
       unfold dotP
       generalize gp p i = a at *
       generalize gp p ((i + 1) % p.length) = b at *
       generalize gp p k = c at *
       have m : ∀ u v w : Int, min v u ≤ w → w ≤ max v u → 0 ≤ (w - u) * (v - u) := fun u v w h1 h2 => by
        rcases Int.le_total u v with h | h
        ·exact Int.mul_nonneg (by omega) (by omega)
        ·exact Int.mul_nonneg_of_nonpos_of_nonpos (by omega) (by omega)
       have := m b.1 a.1 c.1 gb.1 gb.2.1
       have := m b.2 a.2 c.2 gb.2.2.1 gb.2.2.2
       omega
      omega)
    rw [← dot_aff, hz] at this
    omega
end Go.Proofs.YtcdlplobniogpaaGreat
namespace Go.Proofs.YtcdlplobniogpaaGreat
open Go
def sm (f : Nat → Int) : Nat → Int
 | 0 => 0
 | n + 1 => sm f n + f n
theorem sum_erase {α : Type} [DecidableEq α] (w : α → Int) {x : α} : ∀ {m : List α}, x ∈ m → (m.map w).sum = w x + ((m.erase x).map w).sum
 | y :: m, h => by
  by_cases e : y = x
  ·subst e; simp
  ·have hm : x ∈ m := by
    rcases List.mem_cons.1 h with h | h
    ·exact absurd h.symm e
    ·exact h
   rw [List.erase_cons_tail (by simpa using e)]
   simp only [List.map_cons, List.sum_cons]
   rw [sum_erase w hm]
   omega
theorem sum_nonneg {α : Type} (w : α → Int) : ∀ {m : List α}, (∀ x ∈ m, 0 ≤ w x) → 0 ≤ (m.map w).sum
 | [], _ => by simp
 | y :: m, h => by
  simp only [List.map_cons, List.sum_cons]
  have := sum_nonneg w (m := m) fun x hx => h x (List.mem_cons_of_mem _ hx)
  have := h y (by simp)
  omega
theorem sum_sub {α : Type} [DecidableEq α] (w : α → Int) : ∀ {l m : List α}, l.Nodup → (∀ x ∈ l, x ∈ m) → (∀ x ∈ m, 0 ≤ w x) → (l.map w).sum ≤ (m.map w).sum
 | [], m, _, _, h => by simpa using sum_nonneg w h
 | x :: l, m, hn, hs, h => by
  rw [List.nodup_cons] at hn
  rw [sum_erase w (hs x (by simp))]
  simp only [List.map_cons, List.sum_cons]
  have := sum_sub w (l := l) (m := m.erase x) hn.2 (fun y hy => by
   have hne : y ≠ x := fun e => hn.1 (e ▸ hy)
   exact (List.mem_erase_of_ne hne).2 (hs y (List.mem_cons_of_mem _ hy))) (fun y hy => h y (List.mem_of_mem_erase hy))
  omega
end Go.Proofs.YtcdlplobniogpaaGreat
namespace Go.Proofs.YtcdlplobniogpaaGreat
open Go
theorem sortP_mem {ps : List Pt} {x : Pt} : x ∈ sortP ps ↔ x ∈ ps := by unfold sortP; simp
theorem sortP_le (ps : List Pt) : (sortP ps).Pairwise lexLe := by
 have hle : ∀ a b : Pt, (!ltP b a) = true ↔ lexLe a b := fun a b => by
  rw [Bool.not_eq_true', ltP_ff]
  unfold lexLe; omega
 have := List.pairwise_mergeSort (le := fun x y => !ltP y x) (fun a b c h1 h2 => by
  rw [hle] at *
  unfold lexLe at *; omega) (fun a b => by
  rw [Bool.or_eq_true, hle, hle]
  unfold lexLe; omega) ps
 exact this.imp fun h => (hle _ _).1 h
theorem pairwise_gp {R : Pt → Pt → Prop} {l : List Pt} (h : l.Pairwise R) {i j : Nat} (hij : i < j) (hj : j < l.length) : R (gp l i) (gp l j) := by
 have := List.pairwise_iff_getElem.1 h i j (by omega) hj hij
 simpa [gp, List.getD_eq_getElem?_getD, List.getElem?_eq_getElem hj, List.getElem?_eq_getElem (show i < l.length by omega)] using this
theorem compact_sorted {l : List Pt} (h : l.Pairwise lexLe) : (compactP l).Pairwise lexLt := by
 unfold compactP comp
 rw [List.pairwise_map]
 refine List.Pairwise.imp_of_mem ?_ (List.Pairwise.filter _ (List.pairwise_lt_range (n := l.length)))
 intro i j hi hj hij
 simp only [List.mem_filter, List.mem_range, keepB, Bool.or_eq_true, beq_iff_eq, bne_iff_ne] at hi hj
 obtain ⟨hj1, hj2⟩ := hj
 have hne : gp l j ≠ gp l (j - 1) := by
  rcases hj2 with e | e
  ·omega
  ·exact e
 have h1 : lexLe (gp l (j - 1)) (gp l j) := pairwise_gp h (by omega) hj1
 have h2 : lexLe (gp l i) (gp l (j - 1)) := by
  by_cases e : i = j - 1
  ·rw [e]; exact lexLe_refl _
  ·exact pairwise_gp h (by omega) (by omega)
 have h3 : lexLt (gp l (j - 1)) (gp l j) := by
  rcases lexLe_cases h1 with h | h
  ·exact h
  ·exact absurd h.symm hne
 unfold lexLt lexLe at *
 omega
theorem compact_mem {l : List Pt} {x : Pt} : x ∈ compactP l ↔ x ∈ l := by
 constructor
 ·intro h
  simp only [compactP, comp, List.mem_map, List.mem_filter, List.mem_range] at h
  obtain ⟨i, ⟨hi, _⟩, rfl⟩ := h
  exact gp_mem hi
 ·intro h
  obtain ⟨i, hi, rfl⟩ := mem_gp h
  simp only [compactP, comp, List.mem_map, List.mem_filter, List.mem_range]
  clear h
  induction i with
  | zero => exact ⟨0, ⟨hi, by simp [keepB]⟩, rfl⟩
  | succ i ih =>
   by_cases e : gp l (i + 1) = gp l i
   ·rw [e]
    exact ih (by omega)
   ·exact ⟨i + 1, ⟨hi, by simp [keepB, e]⟩, rfl⟩
theorem around_hl {ps : List Pt} (hne : ps ≠ []) : Hl ps (aroundP ps) := by
 have hs := compact_sorted (sortP_le ps)
 have hm : ∀ x, x ∈ compactP (sortP ps) ↔ x ∈ ps := fun x => compact_mem.trans sortP_mem
 unfold aroundP
 generalize compactP (sortP ps) = s at *
 split
 ·rename_i h3
  match s, h3 with
  | [], _ =>
   exfalso
   match ps, hne with
   | a :: r, _ => have := (hm a).2 (by simp); cases this
  | [a], _ => exact .one a rfl (fun y hy => by have := (hm y).2 hy; simpa using this) ((hm a).1 (by simp))
  | [a, b], _ =>
   have hab : lexLt a b := by simpa using hs
   refine Hl.congr (S := [a, b]) (.many ⟨by simp, ?_, ?_, ?_⟩) (fun x => (hm x).symm)
   ·intro y hy
    simp at hy
    rcases hy with rfl | rfl
    ·exact lexLe_refl _
    ·exact lexLe_of_lt hab
   ·intro i j hij hj
    simp at hj
    obtain ⟨rfl, rfl⟩ : i = 0 ∧ j = 1 := by omega
    exact fun e => lexLt_irrefl a (by have : a = b := e; rw [← this] at hab; exact hab)
   ·have hne : a ≠ b := fun e => lexLt_irrefl a (by rw [← e] at hab; exact hab)
    intro i hi
    simp at hi
    have : i = 0 ∨ i = 1 := by omega
    rcases this with rfl | rfl
    ·show E [a, b] a b
     refine ⟨by simp, by simp, hne, fun y hy => ?_⟩
     simp at hy
     rcases hy with rfl | rfl
     ·exact .inr ⟨crossP_a _ _, betw_l _ _⟩
     ·exact .inr ⟨crossP_b _ _, betw_r _ _⟩
    ·have e : (1 + 1) % [a, b].length = 0 := by simp
     rw [e]
     show E [a, b] b a
     refine ⟨by simp, by simp, hne.symm, fun y hy => ?_⟩
     simp at hy
     rcases hy with rfl | rfl
     ·exact .inr ⟨crossP_b _ _, betw_r _ _⟩
     ·exact .inr ⟨crossP_a _ _, betw_l _ _⟩
 ·rename_i h3
  exact (Hl.many (cyc_of (by omega) hs)).congr fun x => (hm x).symm
theorem around_eq {ps p : List Pt} (h : Hl ps p) : aroundP ps = p := by
 refine Hl.unique (around_hl ?_) h
 intro e
 subst e
 have := h.mem (i := 0) h.pos
 cases this
def hullB (l : List Pt) : List Pt × Int :=
 if 4000 < l.length then ([], 2) else if l = [] ∨ l.all placeB = false then ([], 1) else if 64 < (aroundP l).length then ([], 2) else (aroundP l, 0)
end Go.Proofs.YtcdlplobniogpaaGreat
namespace Go.Proofs.YtcdlplobniogpaaGreat
open Go Go.V Go.RowKit
theorem any_placeB (l : List Pt) : l.any (fun p => !placeB p) = !(l.all placeB) := by
 induction l with
 | nil => rfl
 | cons a l ih => simp [ih]
theorem all_isC {l : List Pt} (h : l.all placeB = true) : ∀ p ∈ l, isC p.1 ∧ isC p.2 := fun p hp => by
 have := List.all_eq_true.1 h p hp
 simp only [placeB, Bool.and_eq_true] at this
 exact ⟨isCb_iff.1 this.1, isCb_iff.1 this.2⟩
theorem Hull_fn (v : Value) (l : List Pt) (M : Mem) (hv : Pts M v l) (h64 : i64P l) : V.Fn Tryz.prog 101 [v] M fun rs M' => ∃ u, rs = [u, .int .i64 (hullB l).2] ∧ Pts M' u (hullB l).1 := by
 obtain ⟨ad, c, rfl⟩ := hv.shape
 refine Fn.of_vc cxOK Tryz.func101 rfl rfl rfl ?_
 refine VIf.mk (fun h => ?_) (fun h => ?_)
 ·have h : 4000 < l.length := by have := of_decide_eq_true h; omega
  have e : hullB l = ([], 2) := by unfold hullB; rw [if_pos h]
  rw [e]
  exact VFact.mk ⟨_, rfl, Pts.nil _⟩ trivial
 have h4 : ¬ 4000 < l.length := by have := of_decide_eq_false h; omega
 have bad : (l = [] ∨ l.all placeB = false) → hullB l = ([], 1) := fun hb => by unfold hullB; rw [if_neg h4, if_pos hb]
 refine VIf.mk (fun h => ?_) (fun h => ?_)
 ·have h : l = [] := List.eq_nil_of_length_eq_zero (by have := eq_of_beq h; omega)
  rw [bad (.inl h)]
  repeat (first | refine VIf.tt ?_ | refine VIf.ff ?_)
  refine VFact.mk ⟨_, rfl, Pts.nil _⟩ trivial
 have hne : l ≠ [] := fun e => by subst e; simp at h
 repeat (first | refine VIf.tt ?_ | refine VIf.ff ?_)
 refine VFn.mk _ (ContainsP_fn _ l _ (fun p => !placeB p) M hv fun i hi M' => Hull1_fn _ (h64 i hi).1 (h64 i hi).2 M') ?_
 rintro rs M1 hM1 rfl
 repeat (first | refine VIf.tt ?_ | refine VIf.ff ?_)
 refine VIf.mk (fun h => ?_) (fun h => ?_)
 ·have h : l.all placeB = false := by rw [any_placeB] at h; simpa using h
  rw [bad (.inr h)]
  refine VFact.mk ⟨_, rfl, Pts.nil _⟩ trivial
 have hall : l.all placeB = true := by rw [any_placeB] at h; simpa using h
 refine VFn.mk _ (around_fn _ l M1 (hv.le hM1) (List.length_pos_iff.2 hne) (by omega) (all_isC hall)) ?_
 rintro rs M2 hM2 ⟨u, rfl, hu⟩
 have e0 : hullB l = if 64 < (aroundP l).length then ([], 2) else (aroundP l, 0) := by
  unfold hullB; rw [if_neg h4, if_neg (by rw [hall]; simp [hne])]
 rw [e0]
 obtain ⟨ud, uc, rfl⟩ := hu.shape
 refine VIf.mk (fun h => ?_) (fun h => ?_)
 ·have h : 64 < (aroundP l).length := by have := of_decide_eq_true h; omega
  rw [if_pos h]
  refine VFact.mk ⟨_, rfl, Pts.nil _⟩ trivial
 ·have h : ¬ 64 < (aroundP l).length := by have := of_decide_eq_false h; omega
  rw [if_neg h]
  exact VFact.mk ⟨_, rfl, hu⟩ trivial
end Go.Proofs.YtcdlplobniogpaaGreat
namespace Go.Proofs.YtcdlplobniogpaaGreat
open Go
theorem fold_min (g : Pt → Int) : ∀ (l : List Pt) (m : Int), l.foldl (fun a p => min a (g p)) m ≤ m ∧ (∀ y ∈ l, l.foldl (fun a p => min a (g p)) m ≤ g y) ∧ (l.foldl (fun a p => min a (g p)) m = m ∨ ∃ y ∈ l, l.foldl (fun a p => min a (g p)) m = g y)
 | [], m => ⟨Int.le_refl _, by simp, .inl rfl⟩
 | x :: l, m => by
  obtain ⟨h1, h2, h3⟩ := fold_min g l (min m (g x))
  simp only [List.foldl_cons]
  refine ⟨by omega, fun y hy => ?_, ?_⟩
  ·rcases List.mem_cons.1 hy with rfl | hy
   ·omega
   ·exact h2 y hy
  ·rcases h3 with h3 | ⟨y, hy, h3⟩
   ·rcases Int.le_total m (g x) with h | h
    ·exact .inl (by omega)
    ·exact .inr ⟨x, by simp, by omega⟩
   ·exact .inr ⟨y, List.mem_cons_of_mem _ hy, h3⟩
theorem fold_max (g : Pt → Int) : ∀ (l : List Pt) (m : Int), m ≤ l.foldl (fun a p => max a (g p)) m ∧ (∀ y ∈ l, g y ≤ l.foldl (fun a p => max a (g p)) m) ∧ (l.foldl (fun a p => max a (g p)) m = m ∨ ∃ y ∈ l, l.foldl (fun a p => max a (g p)) m = g y)
 | [], m => ⟨Int.le_refl _, by simp, .inl rfl⟩
 | x :: l, m => by
  obtain ⟨h1, h2, h3⟩ := fold_max g l (max m (g x))
  simp only [List.foldl_cons]
  refine ⟨by omega, fun y hy => ?_, ?_⟩
  ·rcases List.mem_cons.1 hy with rfl | hy
   ·omega
   ·exact h2 y hy
  ·rcases h3 with h3 | ⟨y, hy, h3⟩
   ·rcases Int.le_total m (g x) with h | h
    ·exact .inr ⟨x, by simp, by omega⟩
    ·exact .inl (by omega)
   ·exact .inr ⟨y, List.mem_cons_of_mem _ hy, h3⟩
theorem lo_spec (g : Pt → Int) {ps : List Pt} (hn : 1 ≤ ps.length) : (∀ y ∈ ps, loB g ps ≤ g y) ∧ ∃ y ∈ ps, loB g ps = g y := by
 obtain ⟨h1, h2, h3⟩ := fold_min g ps (g (gp ps 0))
 refine ⟨h2, ?_⟩
 rcases h3 with h3 | h3
 ·exact ⟨_, gp_mem (by omega), h3⟩
 ·exact h3
theorem hi_spec (g : Pt → Int) {ps : List Pt} (hn : 1 ≤ ps.length) : (∀ y ∈ ps, g y ≤ hiB g ps) ∧ ∃ y ∈ ps, hiB g ps = g y := by
 obtain ⟨h1, h2, h3⟩ := fold_max g ps (g (gp ps 0))
 refine ⟨h2, ?_⟩
 rcases h3 with h3 | h3
 ·exact ⟨_, gp_mem (by omega), h3⟩
 ·exact h3
def fX (p : Pt) : Int := p.1
def fY (p : Pt) : Int := p.2
def fS (p : Pt) : Int := p.1 + p.2
def fD (p : Pt) : Int := p.1 - p.2
structure B8 where
 (a b c d s t u v : Int)
def b8 (p : List Pt) : B8 := ⟨loB fX p, hiB fX p, loB fY p, hiB fY p, loB fS p, hiB fS p, loB fD p, hiB fD p⟩
def B8.has (B : B8) (x : Pt) : Prop := B.a ≤ x.1 ∧ x.1 ≤ B.b ∧ B.c ≤ x.2 ∧ x.2 ≤ B.d ∧ B.s ≤ x.1 + x.2 ∧ x.1 + x.2 ≤ B.t ∧ B.u ≤ x.1 - x.2 ∧ x.1 - x.2 ≤ B.v
structure B8.Met (B : B8) : Prop where
 a : ∃ x, B.has x ∧ x.1 = B.a
 b : ∃ x, B.has x ∧ x.1 = B.b
 c : ∃ x, B.has x ∧ x.2 = B.c
 d : ∃ x, B.has x ∧ x.2 = B.d
 s : ∃ x, B.has x ∧ x.1 + x.2 = B.s
 t : ∃ x, B.has x ∧ x.1 + x.2 = B.t
 u : ∃ x, B.has x ∧ x.1 - x.2 = B.u
 v : ∃ x, B.has x ∧ x.1 - x.2 = B.v
theorem b8_has {p : List Pt} (hn : 1 ≤ p.length) : ∀ x ∈ p, (b8 p).has x := fun x hx =>
 ⟨(lo_spec fX hn).1 x hx, (hi_spec fX hn).1 x hx, (lo_spec fY hn).1 x hx, (hi_spec fY hn).1 x hx, (lo_spec fS hn).1 x hx, (hi_spec fS hn).1 x hx, (lo_spec fD hn).1 x hx, (hi_spec fD hn).1 x hx⟩
theorem b8_met {p : List Pt} (hn : 1 ≤ p.length) : (b8 p).Met := by
 have h := b8_has hn
 refine ⟨?_, ?_, ?_, ?_, ?_, ?_, ?_, ?_⟩
 ·obtain ⟨y, hy, e⟩ := (lo_spec fX hn).2; exact ⟨y, h y hy, e.symm⟩
 ·obtain ⟨y, hy, e⟩ := (hi_spec fX hn).2; exact ⟨y, h y hy, e.symm⟩
 ·obtain ⟨y, hy, e⟩ := (lo_spec fY hn).2; exact ⟨y, h y hy, e.symm⟩
 ·obtain ⟨y, hy, e⟩ := (hi_spec fY hn).2; exact ⟨y, h y hy, e.symm⟩
 ·obtain ⟨y, hy, e⟩ := (lo_spec fS hn).2; exact ⟨y, h y hy, e.symm⟩
 ·obtain ⟨y, hy, e⟩ := (hi_spec fS hn).2; exact ⟨y, h y hy, e.symm⟩
 ·obtain ⟨y, hy, e⟩ := (lo_spec fD hn).2; exact ⟨y, h y hy, e.symm⟩
 ·obtain ⟨y, hy, e⟩ := (hi_spec fD hn).2; exact ⟨y, h y hy, e.symm⟩
def B8.pts (B : B8) : List Pt := [(B.a, B.s - B.a), (B.a, B.a - B.u), (B.b, B.b - B.v), (B.b, B.t - B.b), (B.s - B.c, B.c), (B.c + B.v, B.c), (B.d + B.u, B.d), (B.t - B.d, B.d)]
def B8.ptsP (B : B8) : List Pt := [(B.a, max (max B.c (B.s - B.a)) (B.a - B.v)), (B.a, min (min B.d (B.t - B.a)) (B.a - B.u)), (B.b, max (max B.c (B.s - B.b)) (B.b - B.v)), (B.b, min (min B.d (B.t - B.b)) (B.b - B.u)),
 (max (max B.a (B.s - B.c)) (B.c + B.u), B.c), (min (min B.b (B.t - B.c)) (B.c + B.v), B.c), (max (max B.a (B.s - B.d)) (B.d + B.u), B.d), (min (min B.b (B.t - B.d)) (B.d + B.v), B.d)]
structure B8.In (B : B8) : Prop where
 h1 : B.a ≤ B.b ∧ B.c ≤ B.d ∧ B.s ≤ B.t ∧ B.u ≤ B.v
 h2 : B.a + B.c ≤ B.s ∧ 2 * B.a ≤ B.s + B.v ∧ B.s ≤ B.a + B.d
 h3 : B.a ≤ B.d + B.u ∧ 2 * B.a ≤ B.t + B.u ∧ B.c ≤ B.a - B.u
 h4 : B.c + B.v ≤ B.b ∧ B.s + B.v ≤ 2 * B.b ∧ B.b - B.v ≤ B.d
 h5 : B.t - B.d ≤ B.b ∧ B.t + B.u ≤ 2 * B.b ∧ B.b + B.c ≤ B.t
 h6 : 2 * B.c ≤ B.s - B.u ∧ B.s - B.c ≤ B.b
 h7 : 2 * B.c ≤ B.t - B.v ∧ B.a ≤ B.c + B.v
 h8 : B.s - B.u ≤ 2 * B.d ∧ B.d + B.u ≤ B.b
 h9 : B.t - B.v ≤ 2 * B.d ∧ B.a ≤ B.t - B.d
 h10 : B.s + B.u ≤ 2 * B.a ∧ 2 * B.b ≤ B.t + B.v
 h11 : B.s - B.v ≤ 2 * B.c ∧ 2 * B.d ≤ B.t - B.u
theorem B8.Met.in {B : B8} (h : B.Met) : B.In := by
 obtain ⟨⟨xa, ha, ea⟩, ⟨xb, hb, eb⟩, ⟨xc, hc, ec⟩, ⟨xd, hd, ed⟩, ⟨xs, hs, es⟩, ⟨xt, ht, et⟩, ⟨xu, hu, eu⟩, ⟨xv, hv, ev⟩⟩ := h
 unfold B8.has at *
 constructor <;> omega
theorem B8.In.eq {B : B8} (h : B.In) : B.ptsP = B.pts := by
 obtain ⟨h1, h2, h3, h4, h5, h6, h7, h8, h9, h10, h11⟩ := h
 unfold B8.ptsP B8.pts
 have e1 : max (max B.c (B.s - B.a)) (B.a - B.v) = B.s - B.a := by omega
 have e2 : min (min B.d (B.t - B.a)) (B.a - B.u) = B.a - B.u := by omega
 have e3 : max (max B.c (B.s - B.b)) (B.b - B.v) = B.b - B.v := by omega
 have e4 : min (min B.d (B.t - B.b)) (B.b - B.u) = B.t - B.b := by omega
 have e5 : max (max B.a (B.s - B.c)) (B.c + B.u) = B.s - B.c := by omega
 have e6 : min (min B.b (B.t - B.c)) (B.c + B.v) = B.c + B.v := by omega
 have e7 : max (max B.a (B.s - B.d)) (B.d + B.u) = B.d + B.u := by omega
 have e8 : min (min B.b (B.t - B.d)) (B.d + B.v) = B.t - B.d := by omega
 rw [e1, e2, e3, e4, e5, e6, e7, e8]
theorem B8.In.pts_has {B : B8} (h : B.In) : ∀ x ∈ B.pts, B.has x := by
 obtain ⟨h1, h2, h3, h4, h5, h6, h7, h8, h9, h10, h11⟩ := h
 intro x hx
 unfold B8.pts at hx
 simp only [List.mem_cons, List.not_mem_nil, or_false] at hx
 unfold B8.has
 rcases hx with rfl | rfl | rfl | rfl | rfl | rfl | rfl | rfl <;> (simp only; omega)
theorem B8.lin {B : B8} {x : Pt} (hx : B.has x) (α β γ : Int) (h : ∀ y ∈ B.pts, 0 ≤ aff α β γ y) : 0 ≤ aff α β γ x := by
 obtain ⟨g1, g2, g3, g4, g5, g6, g7, g8⟩ := hx
 have P := fun (y : Pt) (hy : y ∈ B.pts) => h y hy
 unfold B8.pts at P
 have p1 := P (B.a, B.s - B.a) (by simp)
 have p2 := P (B.a, B.a - B.u) (by simp)
 have p3 := P (B.b, B.b - B.v) (by simp)
 have p4 := P (B.b, B.t - B.b) (by simp)
 have p5 := P (B.s - B.c, B.c) (by simp)
 have p6 := P (B.c + B.v, B.c) (by simp)
 have p7 := P (B.d + B.u, B.d) (by simp)
 have p8 := P (B.t - B.d, B.d) (by simp)
 clear P h
 obtain ⟨a, b, c, d, s, t, u, v⟩ := B
 simp only at *
 unfold aff at *
 simp only at *
 have m : ∀ k z : Int, 0 ≤ k → 0 ≤ z → 0 ≤ k * z := fun k z h1 h2 => Int.mul_nonneg h1 h2
 rcases Int.le_total 0 α with ha | ha <;> rcases Int.le_total 0 β with hb | hb
 ·rcases Int.le_total β α with hc | hc
  ·have e : α * x.1 + β * x.2 = α * a + β * (s - a) + (α - β) * (x.1 - a) + β * (x.1 + x.2 - s) := by grind
   have := m (α - β) (x.1 - a) (by omega) (by omega)
   have := m β (x.1 + x.2 - s) hb (by omega)
   omega
  ·have e : α * x.1 + β * x.2 = α * (s - c) + β * c + (β - α) * (x.2 - c) + α * (x.1 + x.2 - s) := by grind
   have := m (β - α) (x.2 - c) (by omega) (by omega)
   have := m α (x.1 + x.2 - s) ha (by omega)
   omega
 ·rcases Int.le_total (-β) α with hc | hc
  ·have e : α * x.1 + β * x.2 = α * a + β * (a - u) + (α + β) * (x.1 - a) + (-β) * (x.1 - x.2 - u) := by grind
   have := m (α + β) (x.1 - a) (by omega) (by omega)
   have := m (-β) (x.1 - x.2 - u) (by omega) (by omega)
   omega
  ·have e : α * x.1 + β * x.2 = α * (d + u) + β * d + (-β - α) * (d - x.2) + α * (x.1 - x.2 - u) := by grind
   have := m (-β - α) (d - x.2) (by omega) (by omega)
   have := m α (x.1 - x.2 - u) ha (by omega)
   omega
 ·rcases Int.le_total β (-α) with hc | hc
  ·have e : α * x.1 + β * x.2 = α * b + β * (b - v) + (-α - β) * (b - x.1) + β * (v - (x.1 - x.2)) := by grind
   have := m (-α - β) (b - x.1) (by omega) (by omega)
   have := m β (v - (x.1 - x.2)) hb (by omega)
   omega
  ·have e : α * x.1 + β * x.2 = α * (c + v) + β * c + (β + α) * (x.2 - c) + (-α) * (v - (x.1 - x.2)) := by grind
   have := m (β + α) (x.2 - c) (by omega) (by omega)
   have := m (-α) (v - (x.1 - x.2)) (by omega) (by omega)
   omega
 ·rcases Int.le_total (-β) (-α) with hc | hc
  ·have e : α * x.1 + β * x.2 = α * b + β * (t - b) + (β - α) * (b - x.1) + (-β) * (t - (x.1 + x.2)) := by grind
   have := m (β - α) (b - x.1) (by omega) (by omega)
   have := m (-β) (t - (x.1 + x.2)) (by omega) (by omega)
   omega
  ·have e : α * x.1 + β * x.2 = α * (t - d) + β * d + (α - β) * (d - x.2) + (-α) * (t - (x.1 + x.2)) := by grind
   have := m (α - β) (d - x.2) (by omega) (by omega)
   have := m (-α) (t - (x.1 + x.2)) (by omega) (by omega)
   omega
theorem hl_lin {S q : List Pt} (h : Hl S q) {x : Pt} (hx : ∀ α β γ : Int, (∀ y ∈ S, 0 ≤ aff α β γ y) → 0 ≤ aff α β γ x) : hasB q x = true := by
 cases h with
 | one a hq hS ha =>
  subst hq
  have e1 := hx 1 0 (-a.1) (fun y hy => by rw [hS y hy]; unfold aff; omega)
  have e2 := hx (-1) 0 a.1 (fun y hy => by rw [hS y hy]; unfold aff; omega)
  have e3 := hx 0 1 (-a.2) (fun y hy => by rw [hS y hy]; unfold aff; omega)
  have e4 := hx 0 (-1) a.2 (fun y hy => by rw [hS y hy]; unfold aff; omega)
  unfold aff at e1 e2 e3 e4
  have : a = x := Prod.ext (by omega) (by omega)
  simp [hasB, gp, this]
 | many h =>
  have hn := h.two
  have cr : ∀ i, i < q.length → 0 ≤ crossP (gp q i) (gp q ((i + 1) % q.length)) x := fun i hi => by
   have := hx _ _ _ (fun y hy => by
    rw [← cross_aff (gp q i) (gp q ((i + 1) % q.length))]
    rcases (h.side i hi).2.2.2 y hy with g | ⟨g, _⟩ <;> omega)
   rw [← cross_aff] at this
   exact this
  unfold hasB
  rw [if_neg (by omega)]
  by_cases h2 : q.length = 2
  ·rw [if_pos h2]
   have c0 := cr 0 (by omega)
   have c1 := cr 1 (by omega)
   rw [h2] at c0 c1
   have e1 : crossP (gp q 1) (gp q ((1 + 1) % 2)) x = - crossP (gp q 0) (gp q 1) x := cross_flip _ _ _
   rw [e1] at c1
   have e0 : crossP (gp q 0) (gp q ((0 + 1) % 2)) x = crossP (gp q 0) (gp q 1) x := rfl
   rw [e0] at c0
   have hz : crossP (gp q 0) (gp q 1) x = 0 := by omega
   simp only [Bool.and_eq_true, decide_eq_true_eq]
   refine ⟨hz, ?_⟩
   have hs : ∀ y ∈ S, betwB (gp q 0) (gp q 1) y = true := fun y hy => by
    have s0 := (h.side 0 (by omega)).2.2.2 y hy
    have s1 := (h.side 1 (by omega)).2.2.2 y hy
    rw [h2] at s0 s1
    have e1 : crossP (gp q 1) (gp q ((1 + 1) % 2)) y = - crossP (gp q 0) (gp q 1) y := cross_flip _ _ _
    have e0 : crossP (gp q 0) (gp q ((0 + 1) % 2)) y = crossP (gp q 0) (gp q 1) y := rfl
    rw [e1] at s1
    rw [e0] at s0
    rcases s0 with s0 | ⟨s0, b0⟩
    ·rcases s1 with s1 | ⟨s1, _⟩ <;> omega
    ·exact b0
   generalize gp q 0 = a at *
   generalize gp q 1 = b at *
   have d1 : ∀ m : Int, (∀ y ∈ S, m ≤ y.1) → m ≤ x.1 := fun m hm => by
    have := hx 1 0 (-m) (fun y hy => by have := hm y hy; unfold aff; omega)
    unfold aff at this; omega
   have d2 : ∀ m : Int, (∀ y ∈ S, y.1 ≤ m) → x.1 ≤ m := fun m hm => by
    have := hx (-1) 0 m (fun y hy => by have := hm y hy; unfold aff; omega)
    unfold aff at this; omega
   have d3 : ∀ m : Int, (∀ y ∈ S, m ≤ y.2) → m ≤ x.2 := fun m hm => by
    have := hx 0 1 (-m) (fun y hy => by have := hm y hy; unfold aff; omega)
    unfold aff at this; omega
   have d4 : ∀ m : Int, (∀ y ∈ S, y.2 ≤ m) → x.2 ≤ m := fun m hm => by
    have := hx 0 (-1) m (fun y hy => by have := hm y hy; unfold aff; omega)
    unfold aff at this; omega
   simp only [betwB, decide_eq_true_eq] at hs ⊢
   exact ⟨d1 _ fun y hy => (hs y hy).1, d2 _ fun y hy => (hs y hy).2.1, d3 _ fun y hy => (hs y hy).2.2.1, d4 _ fun y hy => (hs y hy).2.2.2⟩
  ·rw [if_neg h2]
   exact all_true fun i hi => decide_eq_true (cr i hi)
def eightP (p : List Pt) : List Pt := aroundP (b8 p).ptsP
theorem hl_len {S q : List Pt} (h : Hl S q) : q.length ≤ S.length := by
 have hnd : q.Nodup := by
  cases h with
  | one a hq => subst hq; simp
  | many h =>
   show q.Pairwise _
   rw [List.pairwise_iff_getElem]
   intro i j hi hj hij e
   refine h.inj i j hij hj ?_
   simp [gp, List.getD_eq_getElem?_getD, List.getElem?_eq_getElem hi, List.getElem?_eq_getElem hj, e]
 have := sum_sub (fun _ : Pt => (1 : Int)) hnd h.sub (fun _ _ => by decide)
 have e : ∀ l : List Pt, (l.map fun _ => (1 : Int)).sum = l.length := fun l => by
  induction l with
  | nil => rfl
  | cons a l ih => simp only [List.map_cons, List.sum_cons, ih, List.length_cons]; omega
 rw [e, e] at this
 omega
theorem eight_spec {p : List Pt} (hv : validB p = true) : Hl (b8 p).pts (eightP p) ∧ validB (eightP p) = true ∧ (eightP p).length ≤ 8 ∧ b8 (eightP p) = b8 p ∧ (∀ x ∈ (b8 p).pts, placeB x = true) ∧ ∀ x, (b8 p).has x → hasB (eightP p) x = true := by
 have hn := (len_one hv).1
 have hm := b8_met hn
 have hi := hm.in
 have hpts := hi.pts_has
 have hh : Hl (b8 p).pts (eightP p) := by
  unfold eightP
  rw [hi.eq]
  exact around_hl (by simp [B8.pts])
 have hpl : ∀ x ∈ (b8 p).pts, placeB x = true := fun x hx => by
  obtain ⟨⟨xa, ka, ea⟩, ⟨xb, kb, eb⟩, ⟨xc, kc, ec⟩, ⟨xd, kd, ed⟩, _⟩ := hm
  have hx := hpts x hx
  have bd : ∀ y ∈ p, -500000 ≤ y.1 ∧ y.1 ≤ 500000 ∧ -500000 ≤ y.2 ∧ y.2 ≤ 500000 := fun y hy => by
   obtain ⟨i, hi, rfl⟩ := mem_gp hy
   exact place_bd (valid_place hv hi)
  obtain ⟨y1, m1, e1⟩ := (lo_spec fX hn).2
  obtain ⟨y2, m2, e2⟩ := (hi_spec fX hn).2
  obtain ⟨y3, m3, e3⟩ := (lo_spec fY hn).2
  obtain ⟨y4, m4, e4⟩ := (hi_spec fY hn).2
  have b1 := bd y1 m1
  have b2 := bd y2 m2
  have b3 := bd y3 m3
  have b4 := bd y4 m4
  unfold fX at e1 e2
  unfold fY at e3 e4
  have f1 : (b8 p).a = y1.1 := e1
  have f2 : (b8 p).b = y2.1 := e2
  have f3 : (b8 p).c = y3.2 := e3
  have f4 : (b8 p).d = y4.2 := e4
  unfold B8.has at hx
  simp only [placeB, isCb, Bool.and_eq_true, decide_eq_true_eq]
  omega
 have h8 : (eightP p).length ≤ 8 := hl_len hh
 have hval : validB (eightP p) = true := hh.valid hpl (by omega)
 refine ⟨hh, hval, h8, ?_, hpl, fun x hx => hl_lin hh fun α β γ h => B8.lin hx α β γ h⟩
 have hq := (len_one hval).1
 have lo : ∀ (α β : Int) (g : Pt → Int), (∀ y, g y = α * y.1 + β * y.2) → ∀ m, (∀ y ∈ (b8 p).pts, m ≤ g y) → (∃ y ∈ (b8 p).pts, g y = m) → loB g (eightP p) = m := by
  intro α β g hg m h1 ⟨y, hy, e⟩
  obtain ⟨l1, z, hz, l2⟩ := lo_spec g hq
  refine Int.le_antisymm ?_ (by rw [l2]; exact h1 z (hh.sub z hz))
  have := at_corners hval (hh.has hy) α β (- loB g (eightP p)) (fun i hi => by
   have := l1 _ (gp_mem hi)
   rw [hg] at this
   unfold aff; omega)
  unfold aff at this
  rw [hg] at e
  omega
 have hi' : ∀ (α β : Int) (g : Pt → Int), (∀ y, g y = α * y.1 + β * y.2) → ∀ m, (∀ y ∈ (b8 p).pts, g y ≤ m) → (∃ y ∈ (b8 p).pts, g y = m) → hiB g (eightP p) = m := by
  intro α β g hg m h1 ⟨y, hy, e⟩
  obtain ⟨l1, z, hz, l2⟩ := hi_spec g hq
  refine Int.le_antisymm (by rw [l2]; exact h1 z (hh.sub z hz)) ?_
  have := at_corners hval (hh.has hy) (-α) (-β) (hiB g (eightP p)) (fun i hi => by
   have := l1 _ (gp_mem hi)
   rw [hg] at this
   unfold aff
   rw [Int.neg_mul, Int.neg_mul]; omega)
  unfold aff at this
  rw [Int.neg_mul, Int.neg_mul] at this
  rw [hg] at e
  omega
 have q := fun y hy => hpts y hy
 have c1 := lo 1 0 fX (fun y => by unfold fX; omega) (b8 p).a (fun y hy => (q y hy).1) ⟨((b8 p).a, (b8 p).s - (b8 p).a), by simp [B8.pts], rfl⟩
 have c2 := hi' 1 0 fX (fun y => by unfold fX; omega) (b8 p).b (fun y hy => (q y hy).2.1) ⟨((b8 p).b, (b8 p).b - (b8 p).v), by simp [B8.pts], rfl⟩
 have c3 := lo 0 1 fY (fun y => by unfold fY; omega) (b8 p).c (fun y hy => (q y hy).2.2.1) ⟨((b8 p).s - (b8 p).c, (b8 p).c), by simp [B8.pts], rfl⟩
 have c4 := hi' 0 1 fY (fun y => by unfold fY; omega) (b8 p).d (fun y hy => (q y hy).2.2.2.1) ⟨((b8 p).d + (b8 p).u, (b8 p).d), by simp [B8.pts], rfl⟩
 have c5 := lo 1 1 fS (fun y => by unfold fS; omega) (b8 p).s (fun y hy => (q y hy).2.2.2.2.1) ⟨((b8 p).a, (b8 p).s - (b8 p).a), by simp [B8.pts], by unfold fS; simp only; omega⟩
 have c6 := hi' 1 1 fS (fun y => by unfold fS; omega) (b8 p).t (fun y hy => (q y hy).2.2.2.2.2.1) ⟨((b8 p).b, (b8 p).t - (b8 p).b), by simp [B8.pts], by unfold fS; simp only; omega⟩
 have c7 := lo 1 (-1) fD (fun y => by unfold fD; omega) (b8 p).u (fun y hy => (q y hy).2.2.2.2.2.2.1) ⟨((b8 p).a, (b8 p).a - (b8 p).u), by simp [B8.pts], by unfold fD; simp only; omega⟩
 have c8 := hi' 1 (-1) fD (fun y => by unfold fD; omega) (b8 p).v (fun y hy => (q y hy).2.2.2.2.2.2.2) ⟨((b8 p).b, (b8 p).b - (b8 p).v), by simp [B8.pts], by unfold fD; simp only; omega⟩
 show (⟨loB fX (eightP p), hiB fX (eightP p), loB fY (eightP p), hiB fY (eightP p), loB fS (eightP p), hiB fS (eightP p), loB fD (eightP p), hiB fD (eightP p)⟩ : B8) = _
 rw [c1, c2, c3, c4, c5, c6, c7, c8]
theorem has_b8 {p : List Pt} (hv : validB p = true) {x : Pt} (hx : hasB p x = true) : (b8 p).has x := by
 have hn := (len_one hv).1
 have h := fun i (hi : i < p.length) => b8_has hn (gp p i) (gp_mem hi)
 have e1 := at_corners hv hx 1 0 (-(b8 p).a) (fun i hi => by have := h i hi; unfold B8.has at this; unfold aff; omega)
 have e2 := at_corners hv hx (-1) 0 (b8 p).b (fun i hi => by have := h i hi; unfold B8.has at this; unfold aff; omega)
 have e3 := at_corners hv hx 0 1 (-(b8 p).c) (fun i hi => by have := h i hi; unfold B8.has at this; unfold aff; omega)
 have e4 := at_corners hv hx 0 (-1) (b8 p).d (fun i hi => by have := h i hi; unfold B8.has at this; unfold aff; omega)
 have e5 := at_corners hv hx 1 1 (-(b8 p).s) (fun i hi => by have := h i hi; unfold B8.has at this; unfold aff; omega)
 have e6 := at_corners hv hx (-1) (-1) (b8 p).t (fun i hi => by have := h i hi; unfold B8.has at this; unfold aff; omega)
 have e7 := at_corners hv hx 1 (-1) (-(b8 p).u) (fun i hi => by have := h i hi; unfold B8.has at this; unfold aff; omega)
 have e8 := at_corners hv hx (-1) 1 (b8 p).v (fun i hi => by have := h i hi; unfold B8.has at this; unfold aff; omega)
 unfold aff at e1 e2 e3 e4 e5 e6 e7 e8
 unfold B8.has
 omega
end Go.Proofs.YtcdlplobniogpaaGreat
namespace Go.Proofs.YtcdlplobniogpaaGreat
open Go
structure Lin where
 (a b c : Rat)
abbrev P2 := Rat × Rat
def Lin.at (f : Lin) (z : P2) : Rat := f.a * z.1 + f.b * z.2 + f.c
def Lin.dir (f : Lin) (v : P2) : Rat := f.a * v.1 + f.b * v.2
def mvP (z v : P2) (t : Rat) : P2 := (z.1 + t * v.1, z.2 + t * v.2)
theorem at_mv (f : Lin) (z v : P2) (t : Rat) : f.at (mvP z v t) = f.at z + t * f.dir v := by unfold Lin.at Lin.dir mvP; grind
def q2 (p : Pt) : P2 := ((p.1 : Rat), (p.2 : Rat))
def linI (α β γ : Int) : Lin := ⟨α, β, γ⟩
theorem linI_at (α β γ : Int) (x : Pt) : (linI α β γ).at (q2 x) = ((aff α β γ x : Int) : Rat) := by
 unfold linI Lin.at q2 aff; push_cast; rfl
theorem linI_nonneg {α β γ : Int} {x : Pt} : 0 ≤ (linI α β γ).at (q2 x) ↔ 0 ≤ aff α β γ x := by
 rw [linI_at]; exact_mod_cast Iff.rfl
theorem slide_list : ∀ (L : List (Rat × Rat)), (∀ e ∈ L, 0 ≤ e.1) → (∃ e ∈ L, e.2 < 0) → ∃ t, 0 ≤ t ∧ (∀ e ∈ L, 0 ≤ e.1 + t * e.2) ∧ ∃ e ∈ L, e.2 < 0 ∧ e.1 + t * e.2 = 0
 | [], _, ⟨e, he, _⟩ => by cases he
 | e :: L, h0, hr => by
  have h0L : ∀ e ∈ L, 0 ≤ e.1 := fun x hx => h0 x (List.mem_cons_of_mem _ hx)
  have he0 := h0 e List.mem_cons_self
  have stay : ∀ {x t : Rat}, ∀ {y : Rat}, 0 ≤ x → 0 ≤ t → 0 ≤ y → 0 ≤ x + t * y := fun hx ht hy => by
   have := Rat.mul_nonneg ht hy
   grind
  -- where this one is met
  have hte : e.2 < 0 → ∃ t, 0 ≤ t ∧ e.1 + t * e.2 = 0 := fun h => by
   refine ⟨e.1 / (-e.2), ?_, ?_⟩
   ·rw [Rat.div_def]
    refine Rat.mul_nonneg he0 ?_
    have : 0 < -e.2 := by grind
    exact Rat.le_of_lt (Rat.inv_pos.2 this)
   ·have : e.2 ≠ 0 := by grind
    grind
  have less : ∀ {x y t t' : Rat}, 0 ≤ x → 0 ≤ t → t ≤ t' → 0 ≤ x + t' * y → 0 ≤ x + t * y := fun {x y t t'} hx ht htt h => by
   by_cases hy : 0 ≤ y
   ·exact stay hx ht hy
   ·have := Rat.mul_nonneg (show 0 ≤ t' - t by grind) (show 0 ≤ -y by grind)
    grind
  by_cases hL : ∃ e ∈ L, e.2 < 0
  ·obtain ⟨t0, p1, p2, x, hx, p3, p4⟩ := slide_list L h0L hL
   by_cases he : e.2 < 0
   ·obtain ⟨te, q1, q2⟩ := hte he
    by_cases hc : t0 ≤ te
    ·refine ⟨t0, p1, fun y hy => ?_, x, List.mem_cons_of_mem _ hx, p3, p4⟩
     rcases List.mem_cons.1 hy with rfl | hy
     ·exact less he0 p1 hc (by rw [q2]; exact Rat.le_refl)
     ·exact p2 y hy
    ·refine ⟨te, q1, fun y hy => ?_, e, List.mem_cons_self, he, q2⟩
     rcases List.mem_cons.1 hy with rfl | hy
     ·rw [q2]; exact Rat.le_refl
     ·exact less (h0L y hy) q1 (by grind) (p2 y hy)
   ·refine ⟨t0, p1, fun y hy => ?_, x, List.mem_cons_of_mem _ hx, p3, p4⟩
    rcases List.mem_cons.1 hy with rfl | hy
    ·exact stay he0 p1 (by grind)
    ·exact p2 y hy
  ·have he : e.2 < 0 := by
    obtain ⟨x, hx, h⟩ := hr
    rcases List.mem_cons.1 hx with rfl | hx
    ·exact h
    ·exact absurd ⟨x, hx, h⟩ hL
   obtain ⟨te, q1, q2⟩ := hte he
   refine ⟨te, q1, fun y hy => ?_, e, List.mem_cons_self, he, q2⟩
   rcases List.mem_cons.1 hy with rfl | hy
   ·rw [q2]; exact Rat.le_refl
   ·exact stay (h0L y hy) q1 (by
     have : ¬ y.2 < 0 := fun h => hL ⟨y, hy, h⟩
     grind)
theorem slide_lin (L : List Lin) (z v : P2) (h0 : ∀ c ∈ L, 0 ≤ c.at z) (hr : ∃ c ∈ L, c.dir v < 0) : ∃ t, 0 ≤ t ∧ (∀ c ∈ L, 0 ≤ c.at (mvP z v t)) ∧ ∃ c ∈ L, c.dir v < 0 ∧ c.at (mvP z v t) = 0 := by
 obtain ⟨t, h1, h2, e, he, h3, h4⟩ := slide_list (L.map fun c => (c.at z, c.dir v)) (fun e he => by
  obtain ⟨c, hc, rfl⟩ := List.mem_map.1 he; exact h0 c hc) (by
  obtain ⟨c, hc, h⟩ := hr; exact ⟨_, List.mem_map.2 ⟨c, hc, rfl⟩, h⟩)
 obtain ⟨c, hc, rfl⟩ := List.mem_map.1 he
 refine ⟨t, h1, fun c hc => ?_, c, hc, h3, ?_⟩
 ·rw [at_mv]; exact h2 _ (List.mem_map.2 ⟨c, hc, rfl⟩)
 ·rw [at_mv]; exact h4
def vecQ (a b : Pt) : P2 := ((b.1 : Rat) - a.1, (b.2 : Rat) - a.2)
def segQ (a b : Pt) (s : Rat) : P2 := mvP (q2 a) (vecQ a b) s
theorem segQ_0 (a b : Pt) : segQ a b 0 = q2 a := by unfold segQ mvP vecQ q2; ext <;> simp <;> grind
theorem segQ_1 (a b : Pt) : segQ a b 1 = q2 b := by unfold segQ mvP vecQ q2; ext <;> simp <;> grind
theorem mvP_add (z v : P2) (s t : Rat) : mvP (mvP z v s) v t = mvP z v (s + t) := by unfold mvP; ext <;> grind
theorem segQ_at (f : Lin) (a b : Pt) (s : Rat) : f.at (segQ a b s) = (1 - s) * f.at (q2 a) + s * f.at (q2 b) := by unfold Lin.at segQ mvP vecQ q2; grind
theorem slide_seg (a b : Pt) (L : List Lin) (f : Lin) (s : Rat) (h1 : 0 ≤ s) (h2 : s ≤ 1) (hL : ∀ c ∈ L, 0 ≤ c.at (segQ a b s)) (hf : f.at (segQ a b s) < 0) :
  ∃ s', 0 ≤ s' ∧ s' ≤ 1 ∧ (∀ c ∈ L, 0 ≤ c.at (segQ a b s')) ∧ f.at (segQ a b s') < 0 ∧ (s' = 0 ∨ s' = 1 ∨ ∃ c ∈ L, c.at (segQ a b s') = 0 ∧ c.dir (vecQ a b) ≠ 0) := by
 have go : ∀ t, segQ a b (s + t) = mvP (segQ a b s) (vecQ a b) t := fun t => (mvP_add _ _ _ _).symm
 by_cases hd : f.dir (vecQ a b) ≤ 0
 ·obtain ⟨t, k1, k2, e, he, k3, k4⟩ := slide_list ((1 - s, -1) :: L.map fun c => (c.at (segQ a b s), c.dir (vecQ a b))) (fun e he => by
   rcases List.mem_cons.1 he with rfl | he
   ·show 0 ≤ 1 - s; grind
   ·obtain ⟨c, hc, rfl⟩ := List.mem_map.1 he; exact hL c hc) ⟨_, List.mem_cons_self, by show (-1 : Rat) < 0; decide⟩
  have hs1 : 0 ≤ 1 - s + t * -1 := k2 _ List.mem_cons_self
  have htd := Rat.mul_nonneg k1 (show 0 ≤ -f.dir (vecQ a b) by grind)
  refine ⟨s + t, by grind, by grind, fun c hc => ?_, ?_, ?_⟩
  ·rw [go, at_mv]; exact k2 _ (List.mem_cons_of_mem _ (List.mem_map.2 ⟨c, hc, rfl⟩))
  ·rw [go, at_mv]; grind
  ·rcases List.mem_cons.1 he with rfl | he
   ·have : 1 - s + t * -1 = 0 := k4
    exact .inr (.inl (by grind))
   ·obtain ⟨c, hc, rfl⟩ := List.mem_map.1 he
    have k3 : c.dir (vecQ a b) < 0 := k3
    refine .inr (.inr ⟨c, hc, ?_, by grind⟩)
    rw [go, at_mv]; exact k4
 ·obtain ⟨t, k1, k2, e, he, k3, k4⟩ := slide_list ((s, -1) :: L.map fun c => (c.at (segQ a b s), -c.dir (vecQ a b))) (fun e he => by
   rcases List.mem_cons.1 he with rfl | he
   ·exact h1
   ·obtain ⟨c, hc, rfl⟩ := List.mem_map.1 he; exact hL c hc) ⟨_, List.mem_cons_self, by show (-1 : Rat) < 0; decide⟩
  have hs1 : 0 ≤ s + t * -1 := k2 _ List.mem_cons_self
  have htd := Rat.mul_nonneg k1 (show 0 ≤ f.dir (vecQ a b) by grind)
  have back : ∀ c : Lin, c.at (segQ a b (s + -t)) = c.at (segQ a b s) + t * -c.dir (vecQ a b) := fun c => by rw [go, at_mv]; grind
  refine ⟨s + -t, by grind, by grind, fun c hc => ?_, ?_, ?_⟩
  ·rw [back]; exact k2 _ (List.mem_cons_of_mem _ (List.mem_map.2 ⟨c, hc, rfl⟩))
  ·rw [back]; grind
  ·rcases List.mem_cons.1 he with rfl | he
   ·have : s + t * -1 = 0 := k4
    exact .inl (by grind)
   ·obtain ⟨c, hc, rfl⟩ := List.mem_map.1 he
    have k3 : -c.dir (vecQ a b) < 0 := k3
    refine .inr (.inr ⟨c, hc, ?_, by grind⟩)
    rw [back]; exact k4
def sideQ (a b : Pt) : Lin := ⟨-((b.2 : Rat) - a.2), (b.1 : Rat) - a.1, ((b.2 : Rat) - a.2) * a.1 - ((b.1 : Rat) - a.1) * a.2⟩
theorem sideQ_at (a b x : Pt) : (sideQ a b).at (q2 x) = ((crossP a b x : Int) : Rat) := by
 unfold sideQ Lin.at q2 crossP cross; push_cast; grind
theorem sideQ_nonneg {a b x : Pt} : 0 ≤ (sideQ a b).at (q2 x) ↔ 0 ≤ crossP a b x := by
 rw [sideQ_at]; exact_mod_cast Iff.rfl
def crQ (u v : P2) : Rat := u.1 * v.2 - u.2 * v.1
theorem sideQ_dir (a b : Pt) (v : P2) : (sideQ a b).dir v = crQ (vecQ a b) v := by unfold sideQ Lin.dir crQ vecQ; grind
theorem sideQ_l (a b : Pt) : (sideQ a b).at (q2 a) = 0 := by unfold sideQ Lin.at q2; grind
theorem sideQ_r (a b : Pt) : (sideQ a b).at (q2 b) = 0 := by unfold sideQ Lin.at q2; grind
theorem on_line {a b : Pt} {w : P2} (hab : a ≠ b) (h : (sideQ a b).at w = 0) : ∃ r, w = segQ a b r := by
 have h' : ((b.1 : Rat) - a.1) * (w.2 - a.2) = ((b.2 : Rat) - a.2) * (w.1 - a.1) := by unfold sideQ Lin.at at h; grind
 by_cases e : a.1 = b.1
 ·have e2 : a.2 ≠ b.2 := fun h2 => hab (Prod.ext e h2)
  have n2 : (b.2 : Rat) - a.2 ≠ 0 := by
   intro h0
   have : (b.2 : Rat) = a.2 := by grind
   exact e2 (by exact_mod_cast this.symm)
  have n1 : (b.1 : Rat) - a.1 = 0 := by rw [e]; grind
  refine ⟨(w.2 - a.2) / ((b.2 : Rat) - a.2), ?_⟩
  have hw : w.1 = a.1 := by
   rw [n1] at h'
   have : ((b.2 : Rat) - a.2) * (w.1 - a.1) = 0 := by grind
   rcases Rat.mul_eq_zero.1 this with g | g
   ·exact absurd g n2
   ·grind
  unfold segQ mvP vecQ q2
  ext
  ·simp only; rw [n1, hw]; grind
  ·simp only; grind
 ·have n1 : (b.1 : Rat) - a.1 ≠ 0 := by
   intro h0
   have : (b.1 : Rat) = a.1 := by grind
   exact e (by exact_mod_cast this.symm)
  refine ⟨(w.1 - a.1) / ((b.1 : Rat) - a.1), ?_⟩
  unfold segQ mvP vecQ q2
  ext
  ·simp only; grind
  ·simp only
   have z : ((b.1 : Rat) - a.1) * (a.2 + (w.1 - a.1) / ((b.1 : Rat) - a.1) * ((b.2 : Rat) - a.2) - w.2) = 0 := by grind
   rcases Rat.mul_eq_zero.1 z with g | g
   ·exact absurd g n1
   ·grind
end Go.Proofs.YtcdlplobniogpaaGreat
namespace Go.Proofs.YtcdlplobniogpaaGreat
open Go Go.V Go.RowKit
theorem Eight1_fn (p : Pt) (M : Mem) (h : isC p.1 ∧ isC p.2) : FnP Tryz.prog 172 [ptv p] M [.int .i64 (fS p)] := by
 unfold isC at h
 refine Fn.of_vc cxOK Tryz.func172 rfl rfl rfl ?_
 refine VArith.ok (by first | omega | (simp only; omega)) (by first | omega | (simp only; omega)) ?_
 exact VFact.mk ⟨rfl, rfl⟩ trivial
theorem Eight2_fn (p : Pt) (M : Mem) (h : isC p.1 ∧ isC p.2) : FnP Tryz.prog 173 [ptv p] M [.int .i64 (fD p)] := by
 unfold isC at h
 refine Fn.of_vc cxOK Tryz.func173 rfl rfl rfl ?_
 refine VArith.ok (by first | omega | (simp only; omega)) (by first | omega | (simp only; omega)) ?_
 exact VFact.mk ⟨rfl, rfl⟩ trivial
theorem b8_bd {p : List Pt} (hv : validB p = true) : (-500000 ≤ (b8 p).a ∧ (b8 p).b ≤ 500000 ∧ -500000 ≤ (b8 p).c ∧ (b8 p).d ≤ 500000) ∧ (b8 p).In := by
 have hn := (len_one hv).1
 have bd : ∀ y ∈ p, -500000 ≤ y.1 ∧ y.1 ≤ 500000 ∧ -500000 ≤ y.2 ∧ y.2 ≤ 500000 := fun y hy => by
  obtain ⟨i, hi, rfl⟩ := mem_gp hy
  exact place_bd (valid_place hv hi)
 obtain ⟨y1, m1, e1⟩ := (lo_spec fX hn).2
 obtain ⟨y2, m2, e2⟩ := (hi_spec fX hn).2
 obtain ⟨y3, m3, e3⟩ := (lo_spec fY hn).2
 obtain ⟨y4, m4, e4⟩ := (hi_spec fY hn).2
 have b1 := bd y1 m1
 have b2 := bd y2 m2
 have b3 := bd y3 m3
 have b4 := bd y4 m4
 unfold fX at e1 e2
 unfold fY at e3 e4
 have f1 : (b8 p).a = y1.1 := e1
 have f2 : (b8 p).b = y2.1 := e2
 have f3 : (b8 p).c = y3.2 := e3
 have f4 : (b8 p).d = y4.2 := e4
 exact ⟨by omega, (b8_met hn).in⟩
theorem cells_app2 (l : List Pt) (p q : Pt) : cellsP (l ++ [p, q]) = cellsP l ++ ([.int .i64 p.1, .int .i64 p.2] ++ ([.int .i64 q.1, .int .i64 q.2] ++ [])) := by simp [cellsP]
theorem eight_x (B : B8) {i : Nat} (h : i < 2) : ∃ x, ([.int .i64 B.a, .int .i64 B.b] : List Value)[i]? = some (.int .i64 x) ∧ (x = B.a ∨ x = B.b) ∧
  B.ptsP.take (2 * (i + 1)) = B.ptsP.take (2 * i) ++ [(x, [B.s - x, x - B.v].foldl max B.c), (x, [B.t - x, x - B.u].foldl min B.d)] := by
 have : i = 0 ∨ i = 1 := by omega
 rcases this with rfl | rfl
 ·exact ⟨B.a, rfl, .inl rfl, rfl⟩
 ·exact ⟨B.b, rfl, .inr rfl, rfl⟩
theorem eight_y (B : B8) {i : Nat} (h : i < 2) : ∃ x, ([.int .i64 B.c, .int .i64 B.d] : List Value)[i]? = some (.int .i64 x) ∧ (x = B.c ∨ x = B.d) ∧
  B.ptsP.take (4 + 2 * (i + 1)) = B.ptsP.take (4 + 2 * i) ++ [([B.s - x, x + B.u].foldl max B.a, x), ([B.t - x, x + B.v].foldl min B.b, x)] := by
 have : i = 0 ∨ i = 1 := by omega
 rcases this with rfl | rfl
 ·exact ⟨B.c, rfl, .inl rfl, rfl⟩
 ·exact ⟨B.d, rfl, .inr rfl, rfl⟩
set_option maxHeartbeats 1000000 in
theorem Eight_fn (v : Value) (ps : List Pt) (M : Mem) (hv : Pts M v ps) (h64 : i64P ps) : V.Fn Tryz.prog 135 [v] M fun rs M' => if validB ps = true then ∃ u, rs = [u, .int .i64 0] ∧ Pts M' u (eightP ps) else rs = [.slice none 0 0, .int .i64 1] := by
 refine Fn.of_vc cxOK Tryz.func135 rfl rfl rfl ?_
 obtain ⟨ad, c, rfl⟩ := hv.shape
 refine VFn.mk _ (Box_fn _ ps M hv h64) ?_
 rintro rs M1 hM1 hr
 by_cases hV : validB ps = true
 rotate_left
 ·rw [if_neg hV] at hr
  subst hr
  repeat (first | refine VIf.tt ?_ | refine VIf.ff ?_)
  refine VFact.mk ?_ trivial
  show if _ then _ else _
  rw [if_neg hV]
 rw [if_pos hV] at hr
 subst hr
 have hn := len_one hV
 have hC : ∀ k, k < ps.length → isC (gp ps k).1 ∧ isC (gp ps k).2 := fun k hk => all_isC (List.all_eq_true.2 fun p hp => by
  obtain ⟨i, hi, rfl⟩ := mem_gp hp
  exact valid_place hV hi) _ (gp_mem hk)
 repeat (first | refine VIf.tt ?_ | refine VIf.ff ?_)
 refine VFn.p (ends_fn _ ps _ fS _ (hv.le hM1) hn.1 (fun i hi M' => Eight1_fn _ M' (hC i hi))) ?_
 refine VFn.p (ends_fn _ ps _ fD _ (hv.le hM1) hn.1 (fun i hi M' => Eight2_fn _ M' (hC i hi))) ?_
 obtain ⟨bd, bi⟩ := b8_bd hV
 obtain ⟨h1, h2, h3, h4, h5, h6, h7, h8, h9, h10, h11⟩ := bi
 refine VCode.loop cxOK Nat
  (fun i => ⟨[(4, .box 0 0), (5, .box 1 0), (7, .v (.int .i64 (b8 ps).s)), (8, .v (.int .i64 (b8 ps).t)), (9, .v (.int .i64 (b8 ps).u)), (10, .v (.int .i64 (b8 ps).v)), (11, .row 3), (39, .row 2), (40, .v (.int .i64 2)), (41, .v (.int .i64 i))],
   [(0, some (.box 44 [.v (.int .i64 (b8 ps).a), .v (.int .i64 (b8 ps).c)])), (1, some (.box 44 [.v (.int .i64 (b8 ps).b), .v (.int .i64 (b8 ps).d)])), (2, some (.row 3 1 2 [.int .i64 (b8 ps).a, .int .i64 (b8 ps).b])), (3, some (.row 44 2 ((b8 ps).ptsP.take (2 * i)).length (cellsP ((b8 ps).ptsP.take (2 * i)))))], 4, M1, 109, ⟨fun _ => none, none, fun _ => none⟩⟩)
  (fun i => i ≤ 2) (fun i => 2 - i) 0 (Nat.zero_le _) ?_ ?_
 ·refine Wk.nil 11 44 2 rfl (Wk.mk' id (by repeat' constructor) (by repeat' constructor) (injOK_id _) rfl rfl rfl)
 ·rintro i hi m
  have hi : i ≤ 2 := hi
  refine VIf.mk (fun hlt => ?_) (fun hge => ?_)
  ·have hlt : i < 2 := by have := of_decide_eq_true hlt; omega
   obtain ⟨x, hx, hb, he⟩ := eight_x (b8 ps) hlt
   have hxb : -500000 ≤ x ∧ x ≤ 500000 := by omega
   refine VIdxR.mk i rfl hlt ?_
   refine VCells.mk [.int .i64 x] rfl (fun j v hj => by
    have : j = 0 := by
     match j, hj with
     | 0, _ => rfl
     | j + 1, hj => simp at hj
    subst this
    rw [← hj]; simpa using hx) ?_
   refine ⟨_, rfl, ?_⟩
   refine VArith.ok (by first | omega | (simp only; omega)) (by first | omega | (simp only; omega)) ?_
   refine VArith.ok (by first | omega | (simp only; omega)) (by first | omega | (simp only; omega)) ?_
   refine VArith.ok (by first | omega | (simp only; omega)) (by first | omega | (simp only; omega)) ?_
   refine VArith.ok (by first | omega | (simp only; omega)) (by first | omega | (simp only; omega)) ?_
   have hl : ((b8 ps).ptsP.take (2 * i)).length ≤ 8 := by simp [B8.ptsP]; omega
   refine VFact.mk (by simp only; omega) ?_
   refine VArith.ok (by first | omega | (simp only; omega)) (by first | omega | (simp only; omega)) ?_
   have e1 := congrArg List.length he
   rw [List.length_append] at e1
   have e2 := (congrArg cellsP he).trans (cells_app2 _ _ _)
   exact ⟨i + 1, hlt, (by first | omega | (simp only; omega)), Wk.mk' (fun k => if k = 3 then 5 else k) (by repeat' constructor) (by repeat' (first | exact e1.symm | exact e1 | exact e2.symm | exact e2 | constructor)) (injOK_b rfl) rfl rfl rfl⟩
  ·have : i = 2 := by have := of_decide_eq_false hge; omega
   subst this
   refine VCode.loop cxOK Nat
    (fun i => ⟨[(4, .box 0 0), (5, .box 1 0), (7, .v (.int .i64 (b8 ps).s)), (8, .v (.int .i64 (b8 ps).t)), (9, .v (.int .i64 (b8 ps).u)), (10, .v (.int .i64 (b8 ps).v)), (11, .row 3), (75, .row 2), (76, .v (.int .i64 2)), (77, .v (.int .i64 i))],
     [(0, some (.box 44 [.v (.int .i64 (b8 ps).a), .v (.int .i64 (b8 ps).c)])), (1, some (.box 44 [.v (.int .i64 (b8 ps).b), .v (.int .i64 (b8 ps).d)])), (2, some (.row 3 1 2 [.int .i64 (b8 ps).c, .int .i64 (b8 ps).d])), (3, some (.row 44 2 ((b8 ps).ptsP.take (4 + 2 * i)).length (cellsP ((b8 ps).ptsP.take (4 + 2 * i)))))], 4, M1, 109, ⟨fun _ => none, none, fun _ => none⟩⟩)
    (fun i => i ≤ 2) (fun i => 2 - i) 0 (Nat.zero_le _) ?_ ?_
   ·refine Wk.mk' (fun k => if k = 2 then 4 else k) (by repeat' constructor) (by repeat' constructor) (injOK_b rfl) rfl rfl rfl
   ·rintro i hi m
    have hi : i ≤ 2 := hi
    refine VIf.mk (fun hlt => ?_) (fun hge => ?_)
    ·have hlt : i < 2 := by have := of_decide_eq_true hlt; omega
     obtain ⟨x, hx, hb, he⟩ := eight_y (b8 ps) hlt
     have hxb : -500000 ≤ x ∧ x ≤ 500000 := by omega
     refine VIdxR.mk i rfl hlt ?_
     refine VCells.mk [.int .i64 x] rfl (fun j v hj => by
      have : j = 0 := by
       match j, hj with
       | 0, _ => rfl
       | j + 1, hj => simp at hj
      subst this
      rw [← hj]; simpa using hx) ?_
     refine ⟨_, rfl, ?_⟩
     refine VArith.ok (by first | omega | (simp only; omega)) (by first | omega | (simp only; omega)) ?_
     refine VArith.ok (by first | omega | (simp only; omega)) (by first | omega | (simp only; omega)) ?_
     refine VArith.ok (by first | omega | (simp only; omega)) (by first | omega | (simp only; omega)) ?_
     refine VArith.ok (by first | omega | (simp only; omega)) (by first | omega | (simp only; omega)) ?_
     have hl : ((b8 ps).ptsP.take (4 + 2 * i)).length ≤ 8 := by simp [B8.ptsP]; omega
     refine VFact.mk (by simp only; omega) ?_
     refine VArith.ok (by first | omega | (simp only; omega)) (by first | omega | (simp only; omega)) ?_
     have e1 := congrArg List.length he
     rw [List.length_append] at e1
     have e2 := (congrArg cellsP he).trans (cells_app2 _ _ _)
     exact ⟨i + 1, hlt, (by first | omega | (simp only; omega)), Wk.mk' (fun k => if k = 3 then 5 else k) (by repeat' constructor) (by repeat' (first | exact e1.symm | exact e1 | exact e2.symm | exact e2 | constructor)) (injOK_b rfl) rfl rfl rfl⟩
    ·have : i = 2 := by have := of_decide_eq_false hge; omega
     subst this
     have e8 : (b8 ps).ptsP.take (4 + 2 * 2) = (b8 ps).ptsP := rfl
     refine VFz.mk fun x B M2 hM2 hx => ?_
     have hx : Pts M2 x (b8 ps).ptsP := hx
     have hpl := (eight_spec hV).2.2.2.2.1
     refine VFn.mk _ (around_fn x _ M2 hx (by simp [B8.ptsP]) (by simp [B8.ptsP]) (by
      rw [(b8_bd hV).2.eq]
      exact all_isC (List.all_eq_true.2 hpl))) ?_
     rintro rs M3 hM3 ⟨u, rfl, hu⟩
     refine VFact.mk ?_ trivial
     show if _ then _ else _
     rw [if_pos hV]
     exact ⟨u, rfl, hu⟩
end Go.Proofs.YtcdlplobniogpaaGreat
namespace Go.Proofs.YtcdlplobniogpaaGreat
open Go Go.V Go.RowKit
theorem Same_fn (v w : Value) (ps qs : List Pt) (M : Mem) (hv : Pts M v ps) (hw : Pts M w qs) : FnP Tryz.prog 44 [v, w] M [.bool (decide (ps = qs))] := by
 obtain ⟨ad, c, rfl⟩ := hv.shape
 obtain ⟨bd, d, rfl⟩ := hw.shape
 obtain ⟨_, hm, hrd⟩ := hv.cellsOf
 obtain ⟨_, hm', hrd'⟩ := hw.cellsOf
 unfold maxLen at hm hm'
 refine Fn.of_vc cxOK Tryz.func44 rfl rfl rfl ?_
 refine VIf.mk (fun h => ?_) (fun h => ?_)
 ·have h := ne_of_bne h
  refine VFact.mk ⟨?_, rfl⟩ trivial
  rw [decide_eq_false (fun e => h (by rw [e]))]
 have hl : ps.length = qs.length := eq_of_bne h
 refine VCode.loop cxOK Nat (fun i => ⟨[(0, .v (.slice ad ps.length c)), (1, .v (.slice bd qs.length d)), (5, .v (.int .i64 i))], [], 0, M, 26, ⟨fun _ => none, none, fun _ => none⟩⟩)
  (fun i => i ≤ ps.length ∧ ∀ j, j < i → gp ps j = gp qs j) (fun i => ps.length - i) 0 ⟨Nat.zero_le _, fun j hj => by omega⟩ (Wk.mk' id (by repeat' constructor) (by repeat' constructor) (injOK_id _) rfl rfl rfl) ?_
 rintro i ⟨hi, hz⟩ m
 refine VIf.mk (fun hlt => ?_) (fun hge => ?_)
 ·have hlt : i < ps.length := lt_of_dec hlt
  obtain ⟨a1, e1, r1⟩ := hrd M (Mem.le_refl _) i hlt
  obtain ⟨a2, e2, r2⟩ := hrd' M (Mem.le_refl _) i (by omega)
  refine VDraw.go (by kernel_rfl) ?_
  refine VIdx.mk a1 i e1 rfl hlt ?_
  refine VReads.mk [.int .i64 (gp ps i).1, .int .i64 (gp ps i).2] rfl r1 ?_
  refine VIdx.mk a2 i e2 rfl (by omega) ?_
  refine VReads.mk [.int .i64 (gp qs i).1, .int .i64 (gp qs i).2] rfl r2 ?_
  refine VIf.mk (fun hd => ?_) (fun hd => ?_)
  ·refine VFact.mk ⟨?_, rfl⟩ trivial
   rw [decide_eq_false (fun e => by rw [e] at hd; simp at hd)]
  ·refine VArith.ok (by first | omega | (simp only; omega)) (by first | omega | (simp only; omega)) ?_
   refine ⟨i + 1, ⟨hlt, fun j hj => ?_⟩, (by first | omega | (simp only; omega)), (Wk.mk' id (by repeat' constructor) (by repeat' constructor) (injOK_id _) rfl rfl rfl)⟩
   by_cases e : j = i
   ·subst e
    simp only [Bool.not_eq_false', Bool.and_eq_true, beq_iff_eq] at hd
    exact Prod.ext hd.1 hd.2
   ·exact hz j (by omega)
 ·have : i = ps.length := by have := ge_of_dec hge; omega
  subst this
  refine VFact.mk ⟨?_, rfl⟩ trivial
  rw [decide_eq_true (ext_gp hl hz)]
theorem least_fn (v : Value) (l : List Pt) (M : Mem) (hv : Pts M v l) (hn : 1 ≤ l.length) : V.Fn Tryz.prog 165 [v] M fun rs M' => ∃ x, rs = [ptv x] ∧ M' = M ∧ x ∈ l ∧ ∀ y ∈ l, lexLe x y := by
 obtain ⟨ad, c, rfl⟩ := hv.shape
 obtain ⟨_, hm, hrd⟩ := hv.cellsOf
 unfold maxLen at hm
 refine Fn.of_vc cxOK Tryz.func165 rfl rfl rfl ?_
 obtain ⟨a0, e0, r0⟩ := hrd M (Mem.le_refl _) 0 (by omega)
 refine VIdx.mk a0 0 e0 rfl (by omega) ?_
 refine VReads.mk [.int .i64 (gp l 0).1, .int .i64 (gp l 0).2] rfl r0 ?_
 refine VCode.loop cxOK (Nat × Pt) (fun s => ⟨[(0, .v (.slice ad l.length c)), (2, .box 0 0), (3, .box 1 0), (4, .v (.int .i64 s.1))], [(1, some (.box 44 [.v (.int .i64 s.2.1), .v (.int .i64 s.2.2)])), (0, some (.box 44 [.v (.int .i64 0), .v (.int .i64 0)]))], 2, M, 25, ⟨fun _ => none, none, fun _ => none⟩⟩)
  (fun s => s.1 ≤ l.length ∧ s.2 ∈ l ∧ ∀ j, j < s.1 → lexLe s.2 (gp l j)) (fun s => l.length - s.1) (1, gp l 0) ⟨hn, gp_mem (by omega), fun j hj => by
   have : j = 0 := by simp only at hj; omega
   subst this; exact lexLe_refl _⟩ (Wk.mk' id (by repeat' constructor) (by repeat' constructor) (injOK_id _) rfl rfl rfl) ?_
 rintro ⟨i, x⟩ ⟨hi, hx, hz⟩ m
 have hi : i ≤ l.length := hi
 have hx : x ∈ l := hx
 have hz : ∀ j, j < i → lexLe x (gp l j) := hz
 refine VIf.mk (fun hlt => ?_) (fun hge => ?_)
 ·have hlt : i < l.length := lt_of_dec hlt
  obtain ⟨a1, e1, r1⟩ := hrd M (Mem.le_refl _) i hlt
  refine VDraw.go (by kernel_rfl) ?_
  refine VIdx.mk a1 i e1 rfl hlt ?_
  refine VReads.mk [.int .i64 (gp l i).1, .int .i64 (gp l i).2] rfl r1 ?_
  refine VFn.p (Less_fn _ _ _ _ _) ?_
  refine VIf.mk (fun hd => ?_) (fun hd => ?_)
  ·refine VIdx.mk a1 i e1 rfl hlt ?_
   refine VReads.mk [.int .i64 (gp l i).1, .int .i64 (gp l i).2] rfl r1 ?_
   refine VArith.ok (by first | omega | (simp only; omega)) (by first | omega | (simp only; omega)) ?_
   have hlt' : lexLt (gp l i) x := cmp_lex.1 (by have := lessB_iff (gp l i) x; rw [hd] at this; exact of_decide_eq_true this.symm)
   refine ⟨(i + 1, gp l i), ⟨hlt, gp_mem hlt, fun j hj => ?_⟩, (by first | omega | (simp only; omega)), (Wk.mk' id (by repeat' constructor) (by repeat' constructor) (injOK_id _) rfl rfl rfl)⟩
   have hj : j < i + 1 := hj
   by_cases e : j = i
   ·subst e; exact lexLe_refl _
   ·have := hz j (by omega)
    unfold lexLe lexLt at *
    simp only
    omega
  ·refine VArith.ok (by first | omega | (simp only; omega)) (by first | omega | (simp only; omega)) ?_
   have hge' : lexLe x (gp l i) := lex_not fun h => by
    have := lessB_iff (gp l i) x
    rw [hd, decide_eq_true (cmp_lex.2 h)] at this; cases this
   refine ⟨(i + 1, x), ⟨hlt, hx, fun j hj => ?_⟩, (by first | omega | (simp only; omega)), (Wk.mk' id (by repeat' constructor) (by repeat' constructor) (injOK_id _) rfl rfl rfl)⟩
   have hj : j < i + 1 := hj
   by_cases e : j = i
   ·subst e; exact hge'
   ·exact hz j (by omega)
 ·have : i = l.length := by have := ge_of_dec hge; omega
  subst this
  refine VFact.mk ⟨x, rfl, rfl, hx, fun y hy => ?_⟩ trivial
  obtain ⟨j, hj, rfl⟩ := mem_gp hy
  exact hz j hj
theorem nextP_step {l : List Pt} {fr b to y : Pt} (h : E l fr b) (hto : to ∈ l) (hy : y ∈ l) :
  (y = b → to = b ∨ (to = fr ∨ crossP fr to y < 0 ∨ crossP fr to y = 0 ∧ betwB fr y to = true)) ∧ (to = b → y ≠ b → ¬ (to = fr ∨ crossP fr to y < 0 ∨ crossP fr to y = 0 ∧ betwB fr y to = true)) := by
 obtain ⟨h1, h2, h3, h4⟩ := h
 constructor
 ·rintro rfl
  by_cases e : to = fr
  ·exact .inr (.inl e)
  rcases h4 to hto with g | ⟨g, gb⟩
  ·refine .inr (.inr (.inl ?_))
   rw [crossP_swap]; omega
  ·refine .inr (.inr (.inr ⟨?_, gb⟩))
   rw [crossP_swap, g]; rfl
 ·rintro rfl hne hc
  rcases hc with e | e | ⟨e, eb⟩
  ·exact h3 e.symm
  ·rcases h4 y hy with g | ⟨g, _⟩ <;> omega
  ·rcases h4 y hy with g | ⟨g, gb⟩
   ·omega
   ·simp only [betwB, decide_eq_true_eq] at eb gb
    exact hne (Prod.ext (by omega) (by omega))
def Nxt (l : List Pt) (fr b : Pt) : Prop := fr ∈ l ∧ b ∈ l ∧ (E l fr b ∨ b = fr ∧ ∀ y ∈ l, y = fr)
theorem next_fn (v : Value) (l : List Pt) (fr b : Pt) (M : Mem) (hv : Pts M v l) (hC : ∀ p ∈ l, isC p.1 ∧ isC p.2) (hN : Nxt l fr b) : V.Fn Tryz.prog 166 [v, ptv fr] M fun rs M' => rs = [ptv b] ∧ M' = M := by
 obtain ⟨hf, hb, hN⟩ := hN
 obtain ⟨ad, c, rfl⟩ := hv.shape
 obtain ⟨_, hm, hrd⟩ := hv.cellsOf
 unfold maxLen at hm
 refine Fn.of_vc cxOK Tryz.func166 rfl rfl rfl ?_
 refine VCode.loop cxOK (Nat × Pt) (fun s => ⟨[(0, .v (.slice ad l.length c)), (3, .box 0 0), (4, .box 1 0), (5, .box 2 0), (6, .v (.int .i64 s.1))], [(2, some (.box 44 [.v (.int .i64 s.2.1), .v (.int .i64 s.2.2)])), (1, some (.box 44 [.v (.int .i64 0), .v (.int .i64 0)])), (0, some (.box 44 [.v (.int .i64 fr.1), .v (.int .i64 fr.2)]))], 3, M, 47, ⟨fun _ => none, none, fun _ => none⟩⟩)
  (fun s => s.1 ≤ l.length ∧ s.2 ∈ l ∧ ((∃ j, j < s.1 ∧ gp l j = b) → s.2 = b)) (fun s => l.length - s.1) (0, fr) ⟨Nat.zero_le _, hf, fun ⟨j, hj, _⟩ => by simp only at hj; omega⟩ (Wk.mk' id (by repeat' constructor) (by repeat' constructor) (injOK_id _) rfl rfl rfl) ?_
 rintro ⟨i, to⟩ ⟨hi, hto, hz⟩ m
 have hi : i ≤ l.length := hi
 have hto : to ∈ l := hto
 have hz : (∃ j, j < i ∧ gp l j = b) → to = b := hz
 refine VIf.mk (fun hlt => ?_) (fun hge => ?_)
 ·have hlt : i < l.length := lt_of_dec hlt
  have hy := gp_mem hlt
  have c1 := hC fr hf
  have c2 := hC to hto
  have c3 := hC _ hy
  obtain ⟨a1, e1, r1⟩ := hrd M (Mem.le_refl _) i hlt
  have stay : ¬ (to = fr ∨ crossP fr to (gp l i) < 0 ∨ crossP fr to (gp l i) = 0 ∧ betwB fr (gp l i) to = true) → (∃ j, j < i + 1 ∧ gp l j = b) → to = b := by
   rintro hn ⟨j, hj, ej⟩
   by_cases e : j = i
   ·subst e
    rcases hN with hE | ⟨rfl, ha⟩
    ·rcases (nextP_step hE hto hy).1 ej with h | h
     ·exact h
     ·exact absurd h hn
    ·exact ha to hto
   ·exact hz ⟨j, by omega, ej⟩
  have take : (to = fr ∨ crossP fr to (gp l i) < 0 ∨ crossP fr to (gp l i) = 0 ∧ betwB fr (gp l i) to = true) → (∃ j, j < i + 1 ∧ gp l j = b) → gp l i = b := by
   rintro hn ⟨j, hj, ej⟩
   by_cases e : j = i
   ·subst e; exact ej
   ·have := hz ⟨j, by omega, ej⟩
    rcases hN with hE | ⟨rfl, ha⟩
    ·exact Classical.byContradiction fun hne => (nextP_step hE hto hy).2 this hne hn
    ·exact ha _ hy
  refine VDraw.go (by kernel_rfl) ?_
  refine VIdx.mk a1 i e1 rfl hlt ?_
  refine VReads.mk [.int .i64 (gp l i).1, .int .i64 (gp l i).2] rfl r1 ?_
  refine VFn.p (Cross_fn _ _ _ _ _ _ _ c1.1 c1.2 c2.1 c2.2 c3.1 c3.2) ?_
  refine VDraw.go (by kernel_rfl) ?_
  refine VIf.mk (fun ha => ?_) (fun ha => ?_)
  ·have ht : to = fr := by simp only [Bool.and_eq_true, beq_iff_eq] at ha; exact Prod.ext ha.1 ha.2
   repeat (first | refine VIf.tt ?_ | refine VIf.ff ?_)
   refine VIdx.mk a1 i e1 rfl hlt ?_
   refine VReads.mk [.int .i64 (gp l i).1, .int .i64 (gp l i).2] rfl r1 ?_
   refine VArith.ok (by first | omega | (simp only; omega)) (by first | omega | (simp only; omega)) ?_
   exact ⟨(i + 1, gp l i), ⟨hlt, hy, take (.inl ht)⟩, (by first | omega | (simp only; omega)), (Wk.mk' id (by repeat' constructor) (by repeat' constructor) (injOK_id _) rfl rfl rfl)⟩
  have hn1 : to ≠ fr := fun e => by subst e; simp at ha
  repeat (first | refine VIf.tt ?_ | refine VIf.ff ?_)
  refine VIf.mk (fun hb => ?_) (fun hb => ?_)
  ·have hb : crossP fr to (gp l i) < 0 := of_decide_eq_true hb
   repeat (first | refine VIf.tt ?_ | refine VIf.ff ?_)
   refine VIdx.mk a1 i e1 rfl hlt ?_
   refine VReads.mk [.int .i64 (gp l i).1, .int .i64 (gp l i).2] rfl r1 ?_
   refine VArith.ok (by first | omega | (simp only; omega)) (by first | omega | (simp only; omega)) ?_
   exact ⟨(i + 1, gp l i), ⟨hlt, hy, take (.inr (.inl hb))⟩, (by first | omega | (simp only; omega)), (Wk.mk' id (by repeat' constructor) (by repeat' constructor) (injOK_id _) rfl rfl rfl)⟩
  have hb : ¬ crossP fr to (gp l i) < 0 := of_decide_eq_false hb
  repeat (first | refine VIf.tt ?_ | refine VIf.ff ?_)
  refine VIf.mk (fun hc => ?_) (fun hc => ?_)
  ·have hc : crossP fr to (gp l i) = 0 := eq_of_beq hc
   repeat (first | refine VIf.tt ?_ | refine VIf.ff ?_)
   refine VIdx.mk a1 i e1 rfl hlt ?_
   repeat (first | refine VIf.tt ?_ | refine VIf.ff ?_)
   refine VReads.mk [.int .i64 (gp l i).1, .int .i64 (gp l i).2] rfl r1 ?_
   repeat (first | refine VIf.tt ?_ | refine VIf.ff ?_)
   refine VFn.p (between_fn _ _ _ _ _ _ _) ?_
   repeat (first | refine VIf.tt ?_ | refine VIf.ff ?_)
   refine VIf.mk (fun hd => ?_) (fun hd => ?_)
   ·refine VIdx.mk a1 i e1 rfl hlt ?_
    refine VReads.mk [.int .i64 (gp l i).1, .int .i64 (gp l i).2] rfl r1 ?_
    refine VArith.ok (by first | omega | (simp only; omega)) (by first | omega | (simp only; omega)) ?_
    exact ⟨(i + 1, gp l i), ⟨hlt, hy, take (.inr (.inr ⟨hc, hd⟩))⟩, (by first | omega | (simp only; omega)), (Wk.mk' id (by repeat' constructor) (by repeat' constructor) (injOK_id _) rfl rfl rfl)⟩
   ·have hn : ¬ (to = fr ∨ crossP fr to (gp l i) < 0 ∨ crossP fr to (gp l i) = 0 ∧ betwB fr (gp l i) to = true) := by
     rintro (h | h | ⟨_, h⟩)
     ·exact hn1 h
     ·exact hb h
     ·have hd : betwB fr (gp l i) to = false := hd
      rw [h] at hd; cases hd
    refine VArith.ok (by first | omega | (simp only; omega)) (by first | omega | (simp only; omega)) ?_
    exact ⟨(i + 1, to), ⟨hlt, hto, stay hn⟩, (by first | omega | (simp only; omega)), (Wk.mk' id (by repeat' constructor) (by repeat' constructor) (injOK_id _) rfl rfl rfl)⟩
  ·have hc : ¬ crossP fr to (gp l i) = 0 := fun e => by
    have hc' : (crossP fr to (gp l i) == 0) = false := hc
    rw [e] at hc'; simp at hc'
   have hn : ¬ (to = fr ∨ crossP fr to (gp l i) < 0 ∨ crossP fr to (gp l i) = 0 ∧ betwB fr (gp l i) to = true) := by
    rintro (h | h | ⟨h, _⟩)
    ·exact hn1 h
    ·exact hb h
    ·exact hc h
   repeat (first | refine VIf.tt ?_ | refine VIf.ff ?_)
   refine VArith.ok (by first | omega | (simp only; omega)) (by first | omega | (simp only; omega)) ?_
   exact ⟨(i + 1, to), ⟨hlt, hto, stay hn⟩, (by first | omega | (simp only; omega)), (Wk.mk' id (by repeat' constructor) (by repeat' constructor) (injOK_id _) rfl rfl rfl)⟩
 ·have : i = l.length := by have := ge_of_dec hge; omega
  subst this
  obtain ⟨j, hj, ej⟩ := mem_gp hb
  have := hz ⟨j, hj, ej⟩
  refine VFact.mk ⟨?_, rfl⟩ trivial
  rw [← this]; rfl
end Go.Proofs.YtcdlplobniogpaaGreat
namespace Go.Proofs.YtcdlplobniogpaaGreat
open Go Go.V Go.RowKit
theorem hl_nxt {l p : List Pt} (h : Hl l p) {k : Nat} (hk : k < p.length) : Nxt l (gp p k) (gp p ((k + 1) % p.length)) := by
 have hm : ∀ {i : Nat}, i < p.length → gp p i ∈ l := fun hi => h.mem hi
 refine ⟨hm hk, hm (Nat.mod_lt _ (by omega)), ?_⟩
 cases h with
 | one a hp hS ha =>
  subst hp
  have : k = 0 := by simp at hk; omega
  subst this
  exact .inr ⟨by simp [gp], fun y hy => hS y hy⟩
 | many h => exact .inl (h.side k hk)
theorem hl_inj {l p : List Pt} (h : Hl l p) : ∀ i j, i < j → j < p.length → gp p i ≠ gp p j := by
 cases h with
 | one a hp hS ha => subst hp; intro i j hij hj; simp at hj; omega
 | many h => exact h.inj
theorem hl_first {l p : List Pt} (h : Hl l p) : ∀ y ∈ l, lexLe (gp p 0) y := by
 cases h with
 | one a hp hS ha => subst hp; intro y hy; rw [hS y hy]; exact lexLe_refl _
 | many h => exact h.fst
theorem take_gp (p : List Pt) {k : Nat} (h : k < p.length) : p.take (k + 1) = p.take k ++ [gp p k] := by
 rw [List.take_add_one]; simp [gp, h]
theorem cells_app1 (l : List Pt) (p : Pt) : cellsP (l ++ [p]) = cellsP l ++ ([.int .i64 p.1, .int .i64 p.2] ++ []) := by simp [cellsP]
theorem Around_fn (v : Value) (l p : List Pt) (M : Mem) (hv : Pts M v l) (hh : Hl l p) (hC : ∀ p ∈ l, isC p.1 ∧ isC p.2) (hl : l.length ≤ 4000) : V.Fn Tryz.prog 124 [v] M fun rs M' => ∃ u, rs = [u] ∧ Pts M' u p := by
 have hpos := hh.pos
 have hpl := hl_len hh
 have hne : 1 ≤ l.length := by omega
 obtain ⟨ad, c, rfl⟩ := hv.shape
 refine Fn.of_vc cxOK Tryz.func124 rfl rfl rfl ?_
 refine VIf.mk (fun h => ?_) (fun h => ?_)
 ·have := eq_of_beq h; omega
 refine VFn.mk _ (least_fn _ l M hv hne) ?_
 rintro rs M1 hM1 ⟨x, rfl, rfl, hx, hle⟩
 have e0 : gp p 0 = x := lexLe_antisymm (hl_first hh x hx) (hle _ (hh.mem hpos))
 subst e0
 refine VFn.mk _ (next_fn _ l _ (gp p (1 % p.length)) M1 hv hC (hl_nxt hh hpos)) ?_
 rintro rs M2 hM2 ⟨rfl, rfl⟩
 refine VCode.loop cxOK Nat (fun k => ⟨[(0, .v (.slice ad l.length c)), (3, .box 0 0), (4, .row 1), (5, .box 2 0)],
   [(2, some (.box 44 [.v (.int .i64 (gp p (k % p.length)).1), .v (.int .i64 (gp p (k % p.length)).2)])), (1, some (.row 44 2 (p.take k).length (cellsP (p.take k)))), (0, some (.box 44 [.v (.int .i64 (gp p 0).1), .v (.int .i64 (gp p 0).2)]))], 3, M2, 28, ⟨fun _ => none, none, fun _ => none⟩⟩)
  (fun k => 1 ≤ k ∧ k ≤ p.length) (fun k => p.length - k) 1 ⟨Nat.le_refl _, hpos⟩ ?_ ?_
 ·have h1 : p.take 1 = [gp p 0] := by have := take_gp p hpos; simpa using this
  have e1 := congrArg List.length h1
  have e2 := congrArg cellsP h1
  exact Wk.mk' id (by repeat' constructor) (by repeat' (first | exact e1.symm | exact e1 | exact e2.symm | exact e2 | constructor)) (injOK_b rfl) rfl rfl rfl
 rintro k ⟨hk1, hk⟩ m
 refine VIf.mk (fun hd => ?_) (fun hd => ?_)
 ·have hlt : k < p.length := Nat.lt_of_le_of_ne hk fun e => by
   rw [e, Nat.mod_self] at hd; simp at hd
  refine VFact.mk (by simp only; rw [List.length_take]; omega) ?_
  refine VFn.mk _ (next_fn _ l _ (gp p ((k + 1) % p.length)) M2 hv hC (by rw [Nat.mod_eq_of_lt hlt]; exact hl_nxt hh hlt)) ?_
  rintro rs M3 hM3 ⟨rfl, rfl⟩
  have he : p.take (k + 1) = p.take k ++ [gp p (k % p.length)] := by rw [Nat.mod_eq_of_lt hlt]; exact take_gp p hlt
  have e1 := congrArg List.length he
  rw [List.length_append] at e1
  have e2 := (congrArg cellsP he).trans (cells_app1 _ _)
  exact ⟨k + 1, ⟨by omega, hlt⟩, (by first | omega | (simp only; omega)), Wk.mk' (fun i => if i = 2 then 5 else if i = 1 then 4 else i) (by repeat' constructor) (by repeat' (first | exact e1.symm | exact e1 | exact e2.symm | exact e2 | constructor)) (injOK_b rfl) rfl rfl rfl⟩
 ·have hk' : k = p.length := by
   refine Classical.byContradiction fun hne => ?_
   have hlt : k < p.length := by omega
   rw [Nat.mod_eq_of_lt hlt] at hd
   have : gp p 0 = gp p k := by
    simp only [Bool.not_eq_false', Bool.and_eq_true, beq_iff_eq] at hd
    exact (Prod.ext hd.1 hd.2).symm
   exact hl_inj hh 0 k (by omega) hlt this
  subst hk'
  refine VFz.mk fun x B M3 hM3 hx => ?_
  refine VFact.mk ⟨x, rfl, ?_⟩ trivial
  rw [List.take_length] at hx
  exact hx
end Go.Proofs.YtcdlplobniogpaaGreat
namespace Go.Proofs.YtcdlplobniogpaaGreat
open Go Go.V Go.RowKit
theorem allC_valid {ps : List Pt} (hV : validB ps = true) : allC ps := fun k hk => all_isC (List.all_eq_true.2 fun p hp => by
 obtain ⟨i, hi, rfl⟩ := mem_gp hp
 exact valid_place hV hi) _ (gp_mem hk)
def linP (a b : Int) (p : Pt) : Int := a * p.1 + b * p.2
theorem Bounds_fn (v : Value) (ps : List Pt) (a b : Int) (M : Mem) (hv : Pts M v ps) (hn : 1 ≤ ps.length) (hC : allC ps) (ha : -1 ≤ a ∧ a ≤ 1) (hb : -1 ≤ b ∧ b ≤ 1) : FnP Tryz.prog 123 [v, .int .i64 a, .int .i64 b] M [.int .i64 (loB (linP a b) ps), .int .i64 (hiB (linP a b) ps)] := by
 obtain ⟨ad, c, rfl⟩ := hv.shape
 obtain ⟨_, hm, hrd⟩ := hv.cellsOf
 unfold maxLen at hm
 have bd : ∀ i, i < ps.length → (-500000 ≤ a * (gp ps i).1 ∧ a * (gp ps i).1 ≤ 500000) ∧ (-500000 ≤ b * (gp ps i).2 ∧ b * (gp ps i).2 ≤ 500000) := fun i hi => by
  have := hC i hi
  unfold isC at this
  have m1 := mul_bdg (a := a) (b := (gp ps i).1) (A := 1) (B := 500000) ha.1 ha.2 this.1.1 this.1.2
  have m2 := mul_bdg (a := b) (b := (gp ps i).2) (A := 1) (B := 500000) hb.1 hb.2 this.2.1 this.2.2
  omega
 refine Fn.of_vc cxOK Tryz.func123 rfl rfl rfl ?_
 obtain ⟨ad', rfl, r0⟩ := hrd M (Mem.le_refl _) 0 (by omega)
 have b0 := bd 0 (by omega)
 refine VDraw.go (by kernel_rfl) ?_
 refine VIdx.mk ad' 0 rfl rfl (by omega) ?_
 refine VRead.mk (.int .i64 (gp ps 0).1) (r0 0 _ rfl) ?_
 refine VArith.ok (by first | omega | (simp only; omega)) (by first | omega | (simp only; omega)) ?_
 refine VIdx.mk ad' 0 rfl rfl (by omega) ?_
 refine VRead.mk (.int .i64 (gp ps 0).2) (r0 1 _ rfl) ?_
 refine VArith.ok (by first | omega | (simp only; omega)) (by first | omega | (simp only; omega)) ?_
 refine VArith.ok (by first | omega | (simp only; omega)) (by first | omega | (simp only; omega)) ?_
 refine VCode.loop cxOK (Nat × Int × Int) (fun s => ⟨[(0, .v (.slice (some ad') ps.length c)), (1, .v (.int .i64 a)), (2, .v (.int .i64 b)), (8, .v (.int .i64 s.2.1)), (9, .v (.int .i64 s.2.2)), (10, .v (.int .i64 s.1))], [], 0, M, 67, ⟨fun _ => none, none, fun _ => none⟩⟩)
  (fun s => s.1 ≤ ps.length ∧ s.2.1 = (ps.take s.1).foldl (fun x p => min x (linP a b p)) (linP a b (gp ps 0)) ∧ s.2.2 = (ps.take s.1).foldl (fun x p => max x (linP a b p)) (linP a b (gp ps 0))) (fun s => ps.length - s.1) (1, linP a b (gp ps 0), linP a b (gp ps 0)) ⟨hn, ?_, ?_⟩ (Wk.mk' id (by repeat' constructor) (by repeat' constructor) (injOK_id _) rfl rfl rfl) ?_
 ·have h1 : ps.take 1 = [gp ps 0] := by have := take_gp ps hn; simpa using this
  simp only [h1, List.foldl_cons, List.foldl_nil]; omega
 ·have h1 : ps.take 1 = [gp ps 0] := by have := take_gp ps hn; simpa using this
  simp only [h1, List.foldl_cons, List.foldl_nil]; omega
 rintro ⟨i, lo, hi⟩ ⟨hi', e1, e2⟩ m
 have hi' : i ≤ ps.length := hi'
 have e1 : lo = (ps.take i).foldl (fun x p => min x (linP a b p)) (linP a b (gp ps 0)) := e1
 have e2 : hi = (ps.take i).foldl (fun x p => max x (linP a b p)) (linP a b (gp ps 0)) := e2
 refine VIf.mk (fun hlt => ?_) (fun hge => ?_)
 ·have hlt : i < ps.length := lt_of_dec hlt
  obtain ⟨ad2, ead, r1⟩ := hrd M (Mem.le_refl _) i hlt
  have bi := bd i hlt
  refine VDraw.go (by kernel_rfl) ?_
  refine VIdx.mk ad2 i ead rfl hlt ?_
  refine VRead.mk (.int .i64 (gp ps i).1) (r1 0 _ rfl) ?_
  refine VArith.ok (by first | omega | (simp only; omega)) (by first | omega | (simp only; omega)) ?_
  refine VIdx.mk ad2 i ead rfl hlt ?_
  refine VRead.mk (.int .i64 (gp ps i).2) (r1 1 _ rfl) ?_
  refine VArith.ok (by first | omega | (simp only; omega)) (by first | omega | (simp only; omega)) ?_
  refine VArith.ok (by first | omega | (simp only; omega)) (by first | omega | (simp only; omega)) ?_
  refine VDraw.go (by kernel_rfl) ?_
  refine VIdx.mk ad2 i ead rfl hlt ?_
  refine VRead.mk (.int .i64 (gp ps i).1) (r1 0 _ rfl) ?_
  refine VArith.ok (by first | omega | (simp only; omega)) (by first | omega | (simp only; omega)) ?_
  refine VIdx.mk ad2 i ead rfl hlt ?_
  refine VRead.mk (.int .i64 (gp ps i).2) (r1 1 _ rfl) ?_
  refine VArith.ok (by first | omega | (simp only; omega)) (by first | omega | (simp only; omega)) ?_
  refine VArith.ok (by first | omega | (simp only; omega)) (by first | omega | (simp only; omega)) ?_
  refine VArith.ok (by first | omega | (simp only; omega)) (by first | omega | (simp only; omega)) ?_
  refine ⟨(i + 1, min lo (linP a b (gp ps i)), max hi (linP a b (gp ps i))), ⟨hlt, ?_, ?_⟩, (by first | omega | (simp only; omega)), (Wk.mk' id (by repeat' constructor) (by repeat' constructor) (injOK_id _) rfl rfl rfl)⟩
  ·rw [take_step _ _ ps (0, 0) hlt, ← e1]; rfl
  ·rw [take_step _ _ ps (0, 0) hlt, ← e2]; rfl
 ·have : i = ps.length := by have := ge_of_dec hge; omega
  subst this
  rw [List.take_length] at e1 e2
  refine VFact.mk ⟨?_, rfl⟩ trivial
  rw [e1, e2]; rfl
end Go.Proofs.YtcdlplobniogpaaGreat
namespace Go.Proofs.YtcdlplobniogpaaGreat
open Go Go.V Go.RowKit
theorem lin10 : linP 1 0 = fX := funext fun p => by unfold linP fX; omega
theorem lin01 : linP 0 1 = fY := funext fun p => by unfold linP fY; omega
theorem lin11 : linP 1 1 = fS := funext fun p => by unfold linP fS; omega
theorem lin1m : linP 1 (-1) = fD := funext fun p => by unfold linP fD; omega
theorem Corners03_fn (v : Value) (ps : List Pt) (M : Mem) (hv : Pts M v ps) (hn : 1 ≤ ps.length) (hC : allC ps) : FnP Tryz.prog 113 [v] M [ptv (boxLo ps), ptv (boxHi ps)] := by
 obtain ⟨ad, c, rfl⟩ := hv.shape
 have b1 := Bounds_fn _ ps 1 0 M hv hn hC (by omega) (by omega)
 have b2 := Bounds_fn _ ps 0 1 M hv hn hC (by omega) (by omega)
 rw [lin10] at b1
 rw [lin01] at b2
 refine Fn.of_vc cxOK Tryz.func113 rfl rfl rfl ?_
 refine VFn.p b1 ?_
 refine VFn.p b2 ?_
 exact VFact.mk ⟨rfl, rfl⟩ trivial
end Go.Proofs.YtcdlplobniogpaaGreat
namespace Go.Proofs.YtcdlplobniogpaaGreat
open Go Go.V Go.RowKit
theorem Hull_is {v : Value} {l p : List Pt} {e : Int} {M : Mem} (hv : Pts M v l) (h64 : i64P l) (hr : hullB l = (p, e)) : V.Fn Tryz.prog 101 [v] M fun rs M' => ∃ u, rs = [u, .int .i64 e] ∧ Pts M' u p := by
 have := Hull_fn v l M hv h64
 rw [hr] at this
 exact this
theorem Eight_is {v : Value} {ps q : List Pt} {M : Mem} (hv : Pts M v ps) (h64 : i64P ps) (hV : validB ps = true) (hr : eightP ps = q) : V.Fn Tryz.prog 135 [v] M fun rs M' => ∃ u, rs = [u, .int .i64 0] ∧ Pts M' u q := by
 have := Eight_fn v ps M hv h64
 simp only [hV, if_true] at this
 rw [hr] at this
 exact this
theorem Box_is {v : Value} {ps : List Pt} {lo hi : Pt} {M : Mem} (hv : Pts M v ps) (h64 : i64P ps) (hV : validB ps = true) (hl : boxLo ps = lo) (hh : boxHi ps = hi) : V.Fn Tryz.prog 53 [v] M fun rs _ => rs = [ptv lo, ptv hi, .int .i64 0] := by
 have := Box_fn v ps M hv h64
 rw [hV, hl, hh] at this
 exact this
def hasE (ps : List Pt) (x : Pt) : Bool × Int := if (validB ps && placeB x) = true then (hasB ps x, 0) else (false, 1)
theorem hasB_is {v : Value} {ps : List Pt} {x : Pt} {b : Bool} {e : Int} {M : Mem} (hv : Pts M v ps) (h64 : i64P ps) (hx : i64r x.1 ∧ i64r x.2) (hr : hasE ps x = (b, e)) : V.Fn Tryz.prog 176 [v, ptv x] M fun rs _ => rs = [.bool b, .int .i64 e] := by
 have := Has_fn v ps x.1 x.2 M hv h64 hx.1 hx.2
 unfold hasE at hr
 by_cases h : (validB ps && placeB x) = true
 ·rw [if_pos h] at hr
  simp only [h, if_true] at this
  cases hr; exact this
 ·rw [if_neg h] at hr
  simp only [h, Bool.false_eq_true, if_false] at this
  cases hr; exact this
def sq : List Pt := [(0, 0), (4, 0), (4, 4), (0, 4)]
def two : List Pt := [(0, 0), (5, 1)]
end Go.Proofs.YtcdlplobniogpaaGreat
namespace Go.Proofs.YtcdlplobniogpaaGreat
open Go Go.V Go.RowKit
end Go.Proofs.YtcdlplobniogpaaGreat
namespace Go.Proofs.YtcdlplobniogpaaGreat
open Go Go.V Go.RowKit
end Go.Proofs.YtcdlplobniogpaaGreat
namespace Go.Proofs.YtcdlplobniogpaaGreat.hullMatchesReference
open Go Go.V Go.RowKit
end Go.Proofs.YtcdlplobniogpaaGreat.hullMatchesReference
namespace Go.Proofs.YtcdlplobniogpaaGreat
open Go Go.V Go.RowKit
theorem place_C {x : Pt} (h : placeB x = true) : isC x.1 ∧ isC x.2 := all_isC (l := [x]) (by simp [h]) x (by simp)
theorem place_64 {x : Pt} (h : placeB x = true) : i64r x.1 ∧ i64r x.2 := by
 have := place_C h
 unfold isC at this
 unfold i64r
 omega
theorem hasE_is {p : List Pt} {x : Pt} (hV : validB p = true) (hP : placeB x = true) {b : Bool} (h : hasB p x = b) : hasE p x = (b, 0) := by
 unfold hasE
 rw [hV, hP, h]; rfl
theorem Inside_is {v : Value} {ps : List Pt} {x : Pt} {b : Bool} {M : Mem} (hv : Pts M v ps) (hV : validB ps = true) (hP : placeB x = true) (hr : hasB ps x = b) : FnP Tryz.prog 46 [v, ptv x] M [.bool b] := by
 have := Inside_fn v ps x.1 x.2 M hv (allC_valid hV) (place_C hP).1 (place_C hP).2
 rw [show ((x.1, x.2) : Pt) = x from rfl, hr] at this
 exact this
end Go.Proofs.YtcdlplobniogpaaGreat
namespace Go.Proofs.YtcdlplobniogpaaGreat
open Go
theorem pos_of_mulQ {t y : Rat} (ht : 0 < t) (h : 0 ≤ y * t) : 0 ≤ y := by
 by_cases hy : 0 ≤ y
 ·exact hy
 ·have := Rat.mul_pos (show 0 < -y by grind) ht
  grind
theorem castQ_pos {n : Int} : 0 < (n : Rat) ↔ 0 < n := by exact_mod_cast Iff.rfl
theorem castQ_nonneg {n : Int} : 0 ≤ (n : Rat) ↔ 0 ≤ n := by exact_mod_cast Iff.rfl
theorem castQ_zero {n : Int} : (n : Rat) = 0 ↔ n = 0 := by exact_mod_cast Iff.rfl
theorem corner_ne {p : List Pt} (h : validB p = true) {i k : Nat} (hi : i < p.length) (hk : k < p.length) (hne : k ≠ i) : gp p k ≠ gp p i := by
 have inj := hl_inj (hl_of_valid h)
 rcases Nat.lt_or_gt_of_ne hne with g | g
 ·exact inj k i g hi
 ·exact fun e => inj i k g hk e.symm
theorem strict_side {p : List Pt} (h : validB p = true) (h3 : 3 ≤ p.length) {i k : Nat} (hi : i < p.length) (hk : k < p.length) (h1 : k ≠ i) (h2 : k ≠ (i + 1) % p.length) : 0 < crossP (gp p i) (gp p ((i + 1) % p.length)) (gp p k) := by
 rcases valid_side h (by omega) hi hk with e | e | e
 ·exact absurd e (corner_ne h hi hk h1)
 ·exact absurd e (corner_ne h (Nat.mod_lt _ (by omega)) hk h2)
 ·exact e
def nx (p : List Pt) (i : Nat) : Pt := gp p ((i + 1) % p.length)
def conP (p : List Pt) : List Lin := (List.range p.length).map fun i => sideQ (gp p i) (nx p i)
theorem conP_mem {p : List Pt} {i : Nat} (hi : i < p.length) : sideQ (gp p i) (nx p i) ∈ conP p := List.mem_map.2 ⟨i, List.mem_range.2 hi, rfl⟩
theorem conP_of {p : List Pt} {c : Lin} (h : c ∈ conP p) : ∃ i, i < p.length ∧ c = sideQ (gp p i) (nx p i) := by
 obtain ⟨i, hi, rfl⟩ := List.mem_map.1 h
 exact ⟨i, List.mem_range.1 hi, rfl⟩
theorem side_seg {p : List Pt} (h : validB p = true) (h3 : 3 ≤ p.length) {i : Nat} (hi : i < p.length) {w : P2} (hw : ∀ c ∈ conP p, 0 ≤ c.at w) (h0 : (sideQ (gp p i) (nx p i)).at w = 0) :
  ∃ r, 0 ≤ r ∧ r ≤ 1 ∧ w = segQ (gp p i) (nx p i) r := by
 have hn : (i + 1) % p.length < p.length := Nat.mod_lt _ (by omega)
 have hne : (i + 1) % p.length ≠ i := by
  rcases Nat.lt_or_ge (i + 1) p.length with g | g
  ·rw [Nat.mod_eq_of_lt g]; omega
  ·rw [show i + 1 = p.length by omega, Nat.mod_self]; omega
 obtain ⟨r, rfl⟩ := on_line (fun e => corner_ne h hi hn hne e.symm) h0
 refine ⟨r, ?_, ?_, rfl⟩
 ·obtain ⟨j, hj, ej⟩ : ∃ j, j < p.length ∧ (j + 1) % p.length = i := by
   rcases Nat.eq_zero_or_pos i with rfl | g
   ·exact ⟨p.length - 1, by omega, by rw [show p.length - 1 + 1 = p.length by omega, Nat.mod_self]⟩
   ·exact ⟨i - 1, by omega, by rw [show i - 1 + 1 = i by omega, Nat.mod_eq_of_lt hi]⟩
  have hc := hw _ (conP_mem hj)
  have hs := strict_side h h3 hj hn (by
   intro e
   rcases Nat.lt_or_ge (i + 1) p.length with g | g
   ·rw [Nat.mod_eq_of_lt g] at e
    rw [← e] at ej
    rcases Nat.lt_or_ge (i + 1 + 1) p.length with g2 | g2
    ·rw [Nat.mod_eq_of_lt g2] at ej; omega
    ·rw [show i + 1 + 1 = p.length by omega, Nat.mod_self] at ej; omega
   ·rw [show i + 1 = p.length by omega, Nat.mod_self] at e
    rw [← e, Nat.mod_eq_of_lt (by omega)] at ej
    omega) (by rw [ej]; exact hne)
  unfold nx at hc
  rw [ej] at hc hs
  rw [segQ_at, sideQ_r, sideQ_at] at hc
  refine pos_of_mulQ (castQ_pos.2 hs) ?_
  grind
 ·have hc := hw _ (conP_mem hn)
  have hn2 : ((i + 1) % p.length + 1) % p.length ≠ i := by
   rcases Nat.lt_or_ge (i + 1) p.length with g | g
   ·rw [Nat.mod_eq_of_lt g]
    rcases Nat.lt_or_ge (i + 1 + 1) p.length with g2 | g2
    ·rw [Nat.mod_eq_of_lt g2]; omega
    ·rw [show i + 1 + 1 = p.length by omega, Nat.mod_self]; omega
   ·rw [show i + 1 = p.length by omega, Nat.mod_self, Nat.mod_eq_of_lt (by omega)]; omega
  have hs := strict_side h h3 hn hi hne.symm hn2.symm
  rw [segQ_at] at hc
  have e0 : (sideQ (gp p ((i + 1) % p.length)) (nx p ((i + 1) % p.length))).at (q2 (gp p ((i + 1) % p.length))) = 0 := sideQ_l _ _
  rw [e0, sideQ_at] at hc
  have := pos_of_mulQ (y := 1 - r) (castQ_pos.2 hs) (by unfold nx at hc; grind)
  grind
theorem par_zero {u u' v : P2} (hv : ¬ (v.1 = 0 ∧ v.2 = 0)) (h : crQ u v = 0) (h' : crQ u' v = 0) : crQ u u' = 0 := by
 unfold crQ at *
 have e1 : v.1 * (u.1 * u'.2 - u.2 * u'.1) = 0 := by grind
 have e2 : v.2 * (u.1 * u'.2 - u.2 * u'.1) = 0 := by grind
 rcases Rat.mul_eq_zero.1 e1 with g | g
 ·rcases Rat.mul_eq_zero.1 e2 with k | k
  ·exact absurd ⟨g, k⟩ hv
  ·exact k
 ·exact g
theorem blocked {p : List Pt} (h : validB p = true) (h3 : 3 ≤ p.length) {v : P2} (hv : ¬ (v.1 = 0 ∧ v.2 = 0)) : ∃ c ∈ conP p, c.dir v < 0 := by
 refine Classical.byContradiction fun hno => ?_
 have hall : ∀ i, i < p.length → 0 ≤ crQ (vecQ (gp p i) (nx p i)) v := fun i hi => by
  rw [← sideQ_dir]
  refine Rat.not_lt.1 fun hl => hno ⟨_, conP_mem hi, hl⟩
 have step : ∀ i, i + 1 < p.length → ((gp p i).1 : Rat) * v.2 - (gp p i).2 * v.1 ≤ ((gp p (i + 1)).1 : Rat) * v.2 - (gp p (i + 1)).2 * v.1 := fun i hi => by
  have := hall i (by omega)
  unfold nx at this
  rw [Nat.mod_eq_of_lt hi] at this
  unfold crQ vecQ at this
  grind
 have last : ((gp p (p.length - 1)).1 : Rat) * v.2 - (gp p (p.length - 1)).2 * v.1 ≤ ((gp p 0).1 : Rat) * v.2 - (gp p 0).2 * v.1 := by
  have := hall (p.length - 1) (by omega)
  unfold nx at this
  rw [show p.length - 1 + 1 = p.length by omega, Nat.mod_self] at this
  unfold crQ vecQ at this
  grind
 have chain : ∀ k, 2 + k < p.length → ((gp p 2).1 : Rat) * v.2 - (gp p 2).2 * v.1 ≤ ((gp p (2 + k)).1 : Rat) * v.2 - (gp p (2 + k)).2 * v.1 := by
  intro k
  induction k with
  | zero => intro _; exact Rat.le_refl
  | succ k ih =>
   intro hk
   exact Rat.le_trans (ih (by omega)) (step (2 + k) (by omega))
 have c2 := chain (p.length - 3) (by omega)
 rw [show 2 + (p.length - 3) = p.length - 1 by omega] at c2
 have s0 := step 0 (by omega)
 have s1 := step 1 (by omega)
 rw [Nat.zero_add] at s0
 have z1 : crQ (vecQ (gp p 0) (gp p 1)) v = 0 := by unfold crQ vecQ; grind
 have z2 : crQ (vecQ (gp p 0) (gp p 2)) v = 0 := by unfold crQ vecQ; grind
 have z := par_zero hv z1 z2
 have hs := strict_side h h3 (i := 0) (k := 2) (by omega) (by omega) (by omega) (by rw [Nat.mod_eq_of_lt (by omega)]; omega)
 rw [Nat.mod_eq_of_lt (by omega), Nat.zero_add] at hs
 have hs := castQ_pos.2 hs
 have e : ((crossP (gp p 0) (gp p 1) (gp p 2) : Int) : Rat) = crQ (vecQ (gp p 0) (gp p 1)) (vecQ (gp p 0) (gp p 2)) := by unfold crossP cross crQ vecQ; push_cast; rfl
 rw [e, z] at hs
 exact absurd hs (Rat.lt_irrefl)
def alongQ (a b : Pt) : Lin := ⟨(b.1 : Rat) - a.1, (b.2 : Rat) - a.2, -(((b.1 : Rat) - a.1) * a.1 + ((b.2 : Rat) - a.2) * a.2)⟩
def conS (a b : Pt) : List Lin := [sideQ a b, sideQ b a, alongQ a b, alongQ b a]
def lenQ (a b : Pt) : Rat := ((b.1 : Rat) - a.1) * (b.1 - a.1) + (b.2 - a.2) * (b.2 - a.2)
theorem sqQ_nonneg (x : Rat) : 0 ≤ x * x := by
 by_cases h : 0 ≤ x
 ·exact Rat.mul_nonneg h h
 ·have := Rat.mul_nonneg (show 0 ≤ -x by grind) (show 0 ≤ -x by grind)
  grind
theorem lenQ_pos {a b : Pt} (h : a ≠ b) : 0 < lenQ a b := by
 have h1 := sqQ_nonneg ((b.1 : Rat) - a.1)
 have h2 := sqQ_nonneg ((b.2 : Rat) - a.2)
 unfold lenQ
 refine Rat.not_le.1 fun hl => h ?_
 have z1 : ((b.1 : Rat) - a.1) * (b.1 - a.1) = 0 := by grind
 have z2 : ((b.2 : Rat) - a.2) * (b.2 - a.2) = 0 := by grind
 have e1 : (b.1 : Rat) = a.1 := by rcases Rat.mul_eq_zero.1 z1 with g | g <;> grind
 have e2 : (b.2 : Rat) = a.2 := by rcases Rat.mul_eq_zero.1 z2 with g | g <;> grind
 exact Prod.ext (by exact_mod_cast e1.symm) (by exact_mod_cast e2.symm)
theorem alongQ_seg (a b : Pt) (r : Rat) : (alongQ a b).at (segQ a b r) = r * lenQ a b := by unfold alongQ Lin.at segQ mvP vecQ q2 lenQ; grind
theorem alongQ_seg' (a b : Pt) (r : Rat) : (alongQ b a).at (segQ a b r) = (1 - r) * lenQ a b := by unfold alongQ Lin.at segQ mvP vecQ q2 lenQ; grind
theorem sideQ_flip (a b : Pt) (w : P2) : (sideQ b a).at w = -(sideQ a b).at w := by unfold sideQ Lin.at; grind
theorem seg_in {a b : Pt} (hab : a ≠ b) {w : P2} (hw : ∀ c ∈ conS a b, 0 ≤ c.at w) : ∃ r, 0 ≤ r ∧ r ≤ 1 ∧ w = segQ a b r := by
 have h1 := hw (sideQ a b) (by simp [conS])
 have h2 := hw (sideQ b a) (by simp [conS])
 have h3 := hw (alongQ a b) (by simp [conS])
 have h4 := hw (alongQ b a) (by simp [conS])
 rw [sideQ_flip] at h2
 obtain ⟨r, rfl⟩ := on_line (w := w) hab (by grind)
 rw [alongQ_seg] at h3
 rw [alongQ_seg'] at h4
 have hp := lenQ_pos hab
 have := pos_of_mulQ hp h3
 have := pos_of_mulQ hp h4
 exact ⟨r, by assumption, by grind, rfl⟩
end Go.Proofs.YtcdlplobniogpaaGreat
