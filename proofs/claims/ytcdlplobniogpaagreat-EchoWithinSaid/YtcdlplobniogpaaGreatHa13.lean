/- EchoWithin: for any chart, region, echo and cells that are given: what is left is within the box of the region. No conditions beyond the statement's own. -/
import Derived.Test.YtcdlplobniogpaaGreatHa12
import Derived.Test.YtcdlplobniogpaaGreatRows
import Derived.ProofKit
import Derived.OpenShut
set_option linter.unusedVariables false
set_option linter.unusedSimpArgs false
namespace Go.Proofs.YtcdlplobniogpaaGreat
open Go Go.V Go.RowKit
theorem IntsV.sl {M : Mem} {v : Value} {l : List Int} (h : IntsV M v l) : SlAt M 1 v l.length (l.map (Value.int .i64)) := by
 obtain ⟨rows, h1, h2, h3, h4⟩ := h
 have e : rows = l.map fun i => [Value.int .i64 i] := by
  apply List.ext_getElem (by rw [List.length_map]; exact h1)
  intro i hi hi'
  rw [List.length_map] at hi'
  have := h4 i l[i] rows[i] (List.getElem?_eq_getElem hi') (List.getElem?_eq_getElem hi)
  rw [List.getElem_map]
  exact this.1
 have e2 : (l.map fun i => [Value.int .i64 i]).flatten = l.map (Value.int .i64) := by
  clear h1 h2 h3 h4 e
  induction l with
  | nil => rfl
  | cons b bs ih => simp [ih]
 rw [e, e2] at h3
 exact h3
def agaL (c : ChartS) (h v : Pt) (r : List (List Pt)) (k : Nat) : List Int := ((List.range k).map Int.ofNat).filter fun i => !fitI c h v i && decide (i ∈ r.flatMap (touI c))
theorem agaL_succ (c : ChartS) (h v : Pt) (r : List (List Pt)) (k : Nat) : agaL c h v r (k + 1) = agaL c h v r k ++ (if (!fitI c h v k && decide ((k : Int) ∈ r.flatMap (touI c))) = true then [(k : Int)] else []) := by
 unfold agaL
 rw [List.range_succ, List.map_append, List.filter_append]
 congr 1
 rw [List.map_singleton, List.filter_cons]
 rfl
theorem agaL_len (c : ChartS) (h v : Pt) (r : List (List Pt)) (k : Nat) : (agaL c h v r k).length ≤ k := by
 unfold agaL
 refine Nat.le_trans (List.length_filter_le _ _) (by rw [List.length_map, List.length_range]; exact Nat.le_refl _)
set_option maxRecDepth 20000 in
set_option maxHeartbeats 4000000 in
theorem Against18_fn (c : ChartS) (a b d rv : Value) (h v : Pt) (r : List (List Pt)) (M : Mem) (hc : Cha M c a b d) (hr : RegV M rv r) (hs : sndB c h v = true) (hR : regionB r = true) :
  V.Fn Tryz.prog 39 [chV c a b d, rv, ptv h, ptv v] M fun rs M' => ∃ u, rs = [u] ∧ IntsV M' u (agaL c h v r c.cs.length) := by
 have hs' : validC c = true ∧ heiB h = true ∧ depB v = true := by simpa only [sndB, Bool.and_eq_true] using hs
 have hF := validC_frame hs'.1
 have hc4 := hF.1.2.2.2.2.1
 have hr32 : r.length ≤ 32 := by
  simp only [regionB, Bool.and_eq_true, decide_eq_true_eq] at hR
  exact hR.1
 have hall : ∀ p ∈ r, validB p = true := by
  simp only [regionB, Bool.and_eq_true] at hR
  exact fun p hp => List.all_eq_true.1 hR.2 p hp
 have hU := fun M' (hM : M.le M') w p => Under18_fn c a b d w p M' (hc.le hM) hF
 have hlen : ∀ p, (touI c p).length ≤ 4000 := fun p => by
  have e3 : (touI c p).length ≤ (underC c (boxLo p) (boxHi p)).length := List.length_filter_le _ _
  have e4 := underC_len c (boxLo p) (boxHi p)
  omega
 have hcs := hc.cs
 obtain ⟨⟨ad, ka, rfl⟩, ⟨bd, kb, rfl⟩, dd, kd, rfl⟩ := hc.shape
 obtain ⟨ra, rk, rfl, hrm, hrr⟩ := hr.get
 obtain ⟨ad', k', eq, hcm, hcr⟩ := hcs.get
 cases eq
 refine Fn.of_vcode cxOK Tryz.func39 rfl rfl rfl ?_
 refine VCode.st cxOK ?_
 refine VCode.st cxOK ?_
 refine VCode.seq ?_
 refine VCode.st cxOK ?_
 refine VCode.block ?_
 refine VCode.loopC (Nat × List Int × Mem) (fun (⟨k, T, M1⟩ : Nat × List Int × Mem) => ⟨[(1, .v (.slice ra r.length rk)), (4, .box 0 0), (6, .box 1 0), (7, .box 2 0), (9, .row 3), (10, .v (.int .i64 k))], [(0, some (.box 26 [.v (.int .i64 c.ver), .v (.int .i64 c.x), .v (.int .i64 c.y), .v (.int .i64 c.w), .v (.int .i64 c.h), .v (.int .i64 c.sz), .v (.slice ad c.cs.length ka), .v (.slice bd c.bs.length kb), .v (.slice dd c.ls.length kd)])), (1, some (.box 29 [.v (.int .i64 h.1), .v (.int .i64 h.2)])), (2, some (.box 29 [.v (.int .i64 v.1), .v (.int .i64 v.2)])), (3, some (.row 3 1 T.length (T.map (Value.int .i64))))], 4, M1, 53, ⟨fun _ => none, none, fun _ => none⟩⟩)
  (fun (⟨k, T, M1⟩ : Nat × List Int × Mem) => (M.le M1 ∧ k ≤ r.length) ∧ T = (r.take k).flatMap (touI c)) (fun (⟨k, _, _⟩ : Nat × List Int × Mem) => r.length - k) (0, [], M) ⟨⟨Mem.le_refl _, Nat.zero_le _⟩, rfl⟩
  (Wk.nil 9 3 1 rfl (Wk.mk' id (by repeat' constructor) (by repeat' constructor) (injOK_id _) rfl rfl rfl)) ?_
 rintro ⟨k, T, M1⟩ ⟨⟨hM1, hk⟩, hT⟩ m
 have hTl : T.length ≤ 128000 := by
  have h1 := flatMap_len (touI c) 4000 hlen (r.take k)
  rw [List.length_take] at h1
  rw [hT]; omega
 refine VCode.st cxOK ?_
 refine VIf.mk (fun hlt => ?_) (fun hge => ?_)
 ·have hlt := lt_of_dec hlt
  obtain ⟨a1, w1, f1, p1, q1, c1⟩ := hrr M1 hM1 k hlt
  have hV : validB (gr r k) = true := val_gr hall hlt
  have p1 : Pts M1 w1 (gr r k) := p1
  have hst : (r.take (k + 1)).flatMap (touI c) = (r.take k).flatMap (touI c) ++ touI c (gr r k) := flatR_take [] (touI c) r hlt
  have hl1 := hlen (gr r k)
  generalize gr r k = p at *
  refine VCode.of_vc cxOK ?_
  refine VDraw.go (by kernel_rfl) ?_
  refine VIdx.mk a1 k f1 rfl hlt ?_
  refine VRead.mk _ c1 ?_
  refine VFn.mk _ (hU M1 hM1 w1 p p1 hV) ?_
  rintro rs M2 hM2 ⟨u, rfl, hu⟩
  have hsl := hu.sl
  obtain ⟨ua, uk, rfl, _⟩ := hu.get
  refine VSl.mk _ _ hsl ?_
  have hb : (T.length + (touI c p).length) * 8 ≤ 140737488355328 := by omega
  refine VFact.mk hb ?_
  refine VArith.ok (by first | omega | (simp only; omega)) (by first | omega | (simp only; omega)) ?_
  refine ⟨(k + 1, T ++ touI c p, M2), ⟨⟨hM1.trans hM2, hlt⟩, by rw [hst, hT]⟩, (by first | omega | (simp only; omega)), Wk.mk' (fun i => if i = 3 then 4 else i) (by repeat' constructor) ?_ (injOK_b rfl) rfl rfl rfl⟩
  repeat' constructor
  all_goals simp
 have : k = r.length := by have := ge_of_dec hge; omega
 subst this
 rw [List.take_length] at hT
 refine VCode.st cxOK ?_
 refine VCode.frz [9] ?_
 refine VFz.mk fun x Bx M2 hM2 hx => ?_
 have m2 := hM1.trans hM2
 have hxI : IntsV M2 x T := IntsV.of hx fun i hi => by
  rw [hT] at hi
  obtain ⟨p, _, hp⟩ := List.mem_flatMap.1 hi
  have := touI_bd hp
  unfold i64r
  omega
 obtain ⟨xa, xk, rfl, _⟩ := hxI.get
 refine VCode.seq ?_
 refine VCode.st cxOK ?_
 refine VCode.block ?_
 refine VCode.loopC (Nat × Mem) (fun (⟨k, M3⟩ : Nat × Mem) => ⟨[(4, .box 0 0), (6, .box 1 0), (7, .box 2 0), (9, .v (.slice xa T.length xk)), (11, .row 3), (12, .v (.int .i64 k))], [(0, some (.box 26 [.v (.int .i64 c.ver), .v (.int .i64 c.x), .v (.int .i64 c.y), .v (.int .i64 c.w), .v (.int .i64 c.h), .v (.int .i64 c.sz), .v (.slice ad c.cs.length ka), .v (.slice bd c.bs.length kb), .v (.slice dd c.ls.length kd)])), (1, some (.box 29 [.v (.int .i64 h.1), .v (.int .i64 h.2)])), (2, some (.box 29 [.v (.int .i64 v.1), .v (.int .i64 v.2)])), (3, some (.row 3 1 (agaL c h v r k).length ((agaL c h v r k).map (Value.int .i64))))], 4, M3, 53, ⟨fun _ => none, none, fun _ => none⟩⟩)
  (fun (⟨k, M3⟩ : Nat × Mem) => M2.le M3 ∧ k ≤ c.cs.length) (fun (⟨k, _⟩ : Nat × Mem) => c.cs.length - k) (0, M2) ⟨Mem.le_refl _, Nat.zero_le _⟩
  (Wk.nil 11 3 1 rfl (Wk.mk' (fun i => if i = 3 then 4 else i) (by repeat' constructor) (by repeat' constructor) (injOK_b rfl) rfl rfl rfl)) ?_
 rintro ⟨k, M3⟩ ⟨hM3, hk⟩ m3
 have m3' := m2.trans hM3
 have hal := agaL_len c h v r k
 refine VCode.st cxOK ?_
 refine VIf.mk (fun hlt => ?_) (fun hge => ?_)
 ·have hlt := lt_of_dec hlt
  obtain ⟨a1, f1, _, f3⟩ := hcr M3 m3' k hlt
  have bd := cell_bd hs'.1 (i := k) hlt
  have hst := agaL_succ c h v r k
  have hfi : fitI c h v (k : Int) = fitC (gce c.cs k) h v := rfl
  rw [hfi] at hst
  generalize gce c.cs k = x at *
  refine VCode.of_vc cxOK ?_
  refine VDraw.go (by kernel_rfl) ?_
  refine VIdx.mk a1 k f1 rfl hlt ?_
  refine VReads.mk [.int .i64 x.lo, .int .i64 x.hi, .int .i64 x.dt, .bool x.vd] rfl f3 ?_
  refine VFn.p (Meets18_fn x h v M3 bd hs'.2.1) ?_
  refine VIf.mk (fun e1 => ?_) (fun e1 => ?_)
  ·repeat (first | refine VIf.tt ?_ | refine VIf.ff ?_)
   refine VFn.p (Has18_fn _ T k M3 (hxI.le hM3)) ?_
   rw [e1, Bool.true_and, ← hT] at hst
   repeat (first | refine VIf.tt ?_ | refine VIf.ff ?_)
   refine VIf.mk (fun e2 => ?_) (fun e2 => ?_)
   ·rw [if_pos e2] at hst
    have hb : ((agaL c h v r k).length + 1) * 8 ≤ 140737488355328 := by omega
    refine VFact.mk hb ?_
    refine VArith.ok (by first | omega | (simp only; omega)) (by first | omega | (simp only; omega)) ?_
    refine ⟨(k + 1, M3), ⟨hM3, hlt⟩, (by first | omega | (simp only; omega)), Wk.mk' (fun i => if i = 3 then 5 else i) (by repeat' constructor) ?_ (injOK_b rfl) rfl rfl rfl⟩
    repeat' constructor
    all_goals simp [hst]
   ·rw [if_neg (by rw [e2]; exact Bool.false_ne_true), List.append_nil] at hst
    refine VArith.ok (by first | omega | (simp only; omega)) (by first | omega | (simp only; omega)) ?_
    refine ⟨(k + 1, M3), ⟨hM3, hlt⟩, (by first | omega | (simp only; omega)), Wk.mk' id (by repeat' constructor) ?_ (injOK_id _) rfl rfl rfl⟩
    repeat' constructor
    all_goals simp [hst]
  ·rw [e1, Bool.false_and, if_neg Bool.false_ne_true, List.append_nil] at hst
   repeat (first | refine VIf.tt ?_ | refine VIf.ff ?_)
   refine VArith.ok (by first | omega | (simp only; omega)) (by first | omega | (simp only; omega)) ?_
   refine ⟨(k + 1, M3), ⟨hM3, hlt⟩, (by first | omega | (simp only; omega)), Wk.mk' id (by repeat' constructor) ?_ (injOK_id _) rfl rfl rfl⟩
   repeat' constructor
   all_goals simp [hst]
 have : k = c.cs.length := by have := ge_of_dec hge; omega
 subst this
 refine VCode.of_vc cxOK ?_
 refine VFz.mk fun y By M4 hM4 hy => ?_
 refine VFact.mk ⟨y, rfl, IntsV.of hy fun i hi => ?_⟩ trivial
 unfold agaL at hi
 obtain ⟨j, hj, rfl⟩ := List.mem_map.1 (List.mem_filter.1 hi).1
 have := List.mem_range.1 hj
 unfold i64r
 simp only [Int.ofNat_eq_natCast]
 omega
end Go.Proofs.YtcdlplobniogpaaGreat
namespace Go.Proofs.YtcdlplobniogpaaGreat
open Go Go.V Go.RowKit
theorem Conflicts18_fn (c : ChartS) (a b d rv : Value) (h v : Pt) (r : List (List Pt)) (M : Mem) (hc : Cha M c a b d) (hr : RegV M rv r) :
  V.Fn Tryz.prog 14 [chV c a b d, rv, ptv h, ptv v] M fun rs M' => if sndB c h v = true ∧ regionB r = true then ∃ u, rs = [u, .int .i64 0] ∧ IntsV M' u (agaL c h v r c.cs.length) else rs = [.slice none 0 0, .int .i64 1] := by
 have hR := right18_fn c a b d h v M hc
 have hV := regValidR_fn rv r M hr
 have hA := Against18_fn c a b d rv h v r M hc hr
 obtain ⟨⟨ad, ka, rfl⟩, ⟨bd, kb, rfl⟩, dd, kd, rfl⟩ := hc.shape
 obtain ⟨ra, rk, rfl, hrm, hrr⟩ := hr.get
 refine Fn.of_vc cxOK Tryz.func14 rfl rfl rfl ?_
 refine VFn.p hR ?_
 refine VIf.mk (fun e1 => ?_) (fun e1 => ?_)
 ·have e1 := bn1 e1
  repeat (first | refine VIf.tt ?_ | refine VIf.ff ?_)
  exact VFact.mk (by show (if _ ∧ _ then _ else _); rw [if_neg (fun h => by rw [e1] at h; cases h.1)]) trivial
 have e1 := bn2 e1
 repeat (first | refine VIf.tt ?_ | refine VIf.ff ?_)
 refine VFn.p hV ?_
 repeat (first | refine VIf.tt ?_ | refine VIf.ff ?_)
 refine VIf.mk (fun e2 => ?_) (fun e2 => ?_)
 ·have e2 := bn1 e2
  exact VFact.mk (by show (if _ ∧ _ then _ else _); rw [if_neg (fun h => by rw [e2] at h; cases h.2)]) trivial
 have e2 := bn2 e2
 refine VFn.mk _ (hA e1 e2) ?_
 rintro rs M1 hM1 ⟨u, rfl, hu⟩
 exact VFact.mk (by show (if _ ∧ _ then _ else _); rw [if_pos ⟨e1, e2⟩]; exact ⟨u, rfl, hu⟩) trivial
set_option maxRecDepth 20000 in
set_option maxHeartbeats 4000000 in
theorem pieces18_fn (c : ChartS) (a b d w cv : Value) (h v : Pt) (p : List Pt) (cells : List Int) (M : Mem) (hc : Cha M c a b d) (hp : Pts M w p) (hI : IntsV M cv cells) (hs : sndB c h v = true) (hV : validB p = true) :
  V.Fn Tryz.prog 70 [chV c a b d, w, ptv h, ptv v, cv] M fun rs M' => ∃ u, rs = [u] ∧ RegV M' u (echP c h v cells p) := by
 have hs' : validC c = true ∧ heiB h = true ∧ depB v = true := by simpa only [sndB, Bool.and_eq_true] using hs
 have hF := validC_frame hs'.1
 have hc4 := hF.1.2.2.2.2.1
 have hlen1 : 1 ≤ c.cs.length := by
  have := Int.mul_le_mul_of_nonneg_right hF.1.2.1.1 (show 0 ≤ c.h by have := hF.1.2.2.1; omega)
  have := hF.1.2.2.2.1
  have := hF.1.2.2.1
  omega
 have hU := Under18_fn c a b d w p M hc hF hp hV
 have hS := fun M' (hM : M.le M') i hi => Square18_fn c a b d i M' (hc.le hM) hF hi
 have hB := fun M' (hM : M.le M') i hi => Bounds15_fn c a b d i M' (hc.le hM) hF hi
 have hcs := hc.cs
 obtain ⟨⟨ad, ka, rfl⟩, ⟨bd, kb, rfl⟩, dd, kd, rfl⟩ := hc.shape
 obtain ⟨ad', k', eq, hcm, hcr⟩ := hcs.get
 cases eq
 obtain ⟨wa, wk, rfl⟩ := hp.shape
 obtain ⟨ia, ik, rfl, him, hir⟩ := hI.get
 refine Fn.of_vcode cxOK Tryz.func70 rfl rfl rfl ?_
 refine VCode.st cxOK ?_
 refine VCode.st cxOK ?_
 refine VCode.st cxOK ?_
 refine VCode.st cxOK ?_
 refine VFn.mk _ hU ?_
 rintro rs M1 hM1 ⟨u, rfl, hu⟩
 obtain ⟨L, hL⟩ : ∃ L, L = touI c p := ⟨_, rfl⟩
 obtain ⟨ok, hok⟩ : ∃ ok : Int → Bool, ok = okI c h v cells := ⟨_, rfl⟩
 rw [← hL] at hu
 have hLl : L.length ≤ 4000 := by
  have e3 : (touI c p).length ≤ (underC c (boxLo p) (boxHi p)).length := List.length_filter_le _ _
  have e4 := underC_len c (boxLo p) (boxHi p)
  rw [hL]; omega
 obtain ⟨ua, uk, rfl, hum, hur⟩ := hu.get
 refine VCode.seq ?_
 refine VCode.st cxOK ?_
 refine VCode.block ?_
 refine VCode.loopC (Nat × List Value × Bool × Mem) (fun (⟨k, ys, al, M2⟩ : Nat × List Value × Bool × Mem) => ⟨[(1, .v (.slice wa p.length wk)), (4, .v (.slice ia cells.length ik)), (5, .box 0 0), (7, .box 1 0), (8, .box 2 0), (11, .row 3), (12, .v (.bool al)), (13, .v (.slice ua L.length uk)), (14, .v (.int .i64 k))], [(0, some (.box 26 [.v (.int .i64 c.ver), .v (.int .i64 c.x), .v (.int .i64 c.y), .v (.int .i64 c.w), .v (.int .i64 c.h), .v (.int .i64 c.sz), .v (.slice ad c.cs.length ka), .v (.slice bd c.bs.length kb), .v (.slice dd c.ls.length kd)])), (1, some (.box 29 [.v (.int .i64 h.1), .v (.int .i64 h.2)])), (2, some (.box 29 [.v (.int .i64 v.1), .v (.int .i64 v.2)])), (3, some (.row 64 1 ys.length ys))], 4, M2, 84, ⟨fun _ => none, none, fun _ => none⟩⟩)
  (fun (⟨k, ys, al, M2⟩ : Nat × List Value × Bool × Mem) => (M1.le M2 ∧ k ≤ L.length) ∧ PlsV M2 ys (((L.take k).filter ok).map (pieC c p)) ∧ al = (L.take k).all ok) (fun (⟨k, _, _, _⟩ : Nat × List Value × Bool × Mem) => L.length - k) (0, [], true, M1) ⟨⟨Mem.le_refl _, Nat.zero_le _⟩, PlsV.nil _, rfl⟩
  (Wk.nil 11 64 1 rfl (Wk.mk' id (by repeat' constructor) (by repeat' constructor) (injOK_id _) rfl rfl rfl)) ?_
 rintro ⟨k, ys, al, M2⟩ ⟨⟨hM2, hk⟩, h3, h4⟩ m
 have m2 := hM1.trans hM2
 have hyl : ys.length ≤ 4000 := by
  have e1 := h3.1
  rw [List.length_map] at e1
  have e2 := List.length_filter_le ok (L.take k)
  rw [List.length_take] at e2
  omega
 refine VCode.st cxOK ?_
 refine VIf.mk (fun hlt => ?_) (fun hge => ?_)
 ·have hlt := lt_of_dec hlt
  obtain ⟨a1, f1, _, f3⟩ := hur M2 hM2 k hlt
  have htk : L.take (k + 1) = L.take k ++ [gi L k] := by rw [List.take_add_one]; congr 1; unfold gi; simp [hlt]
  have hj : gi L k ∈ touI c p := by rw [← hL]; exact gi_memI hlt
  generalize gi L k = j at *
  have hjb := touI_bd hj
  have hpl : i64P (pieC c p j) := by
   have h0 := of_decide_eq_true (List.mem_filter.1 hj).2
   exact valid_64 (arC_valid (List.ne_nil_of_length_pos h0) (shar_place hV))
  have hok1 : ok j = (fitI c h v j || decide (j ∈ cells)) := by rw [hok]; rfl
  have hyes : ∀ {M3 : Mem} {q : Value}, M2.le M3 → Pts M3 q (pieC c p j) → ok j = true → PlsV M3 (ys ++ [q]) (((L.take (k + 1)).filter ok).map (pieC c p)) ∧ al = (L.take (k + 1)).all ok := by
   intro M3 q hM3 hq e
   rw [htk, List.filter_append, List.map_append, List.all_append, ← h4]
   simp only [List.filter_cons, e, if_true, List.filter_nil, List.map_cons, List.map_nil, List.all_cons, List.all_nil, Bool.and_true, Bool.and_self]
   exact ⟨(h3.le hM3).snoc hq hpl, trivial⟩
  have hno : ok j = false → PlsV M2 ys (((L.take (k + 1)).filter ok).map (pieC c p)) ∧ false = (L.take (k + 1)).all ok := by
   intro e
   rw [htk, List.filter_append, List.map_append, List.all_append, ← h4]
   simp only [List.filter_cons, e, List.filter_nil, List.map_nil, List.all_cons, List.all_nil, Bool.and_true, Bool.and_false, List.append_nil, Bool.false_eq_true, if_false]
   exact ⟨h3, trivial⟩
  obtain ⟨a2, g1, _, g3⟩ := hcr M2 m2 j.toNat (by omega)
  have bd := cell_bd hs'.1 (i := j.toNat) (by omega)
  have hfi : fitI c h v j = fitC (gce c.cs j.toNat) h v := rfl
  rw [hfi] at hok1
  generalize gce c.cs j.toNat = x at *
  refine VCode.of_vc cxOK ?_
  refine VIdx.mk a1 k f1 rfl hlt ?_
  refine VRead.mk _ f3 ?_
  refine VDraw.go (by kernel_rfl) ?_
  refine VIdx.mk a2 j.toNat g1 (by omega) (by omega) ?_
  refine VReads.mk [.int .i64 x.lo, .int .i64 x.hi, .int .i64 x.dt, .bool x.vd] rfl g3 ?_
  refine VFn.p (Meets18_fn x h v M2 bd hs'.2.1) ?_
  refine VIf.mk (fun e1 => ?_) (fun e1 => ?_)
  ·repeat (first | refine VIf.tt ?_ | refine VIf.ff ?_)
   refine VFn.mk _ (hS M2 m2 j hjb) ?_
   rintro rs M3 hM3 ⟨s, rfl, hsq⟩
   refine VFn.mk _ (Met04_fn _ s p _ M3 (hp.le (m2.trans hM3)) hsq hV (sqC_valid hF hjb) (sqC_len _)) ?_
   rintro rs M4 hM4 ⟨q, rfl, hq⟩
   obtain ⟨qa, qk, rfl⟩ := Pts.shape (ps := pieC c p j) hq
   obtain ⟨g1, g2⟩ := hyes (hM3.trans hM4) hq (by rw [hok1, e1]; rfl)
   have hb : (ys.length + 1) * 24 ≤ 140737488355328 := by omega
   refine VFact.mk hb ?_
   refine VArith.ok (by first | omega | (simp only; omega)) (by first | omega | (simp only; omega)) ?_
   refine ⟨(k + 1, ys ++ [.slice qa (pieC c p j).length qk], al, M4), ⟨⟨hM2.trans (hM3.trans hM4), hlt⟩, g1, g2⟩, (by first | omega | (simp only; omega)), Wk.mk' (fun i => if i = 3 then 5 else i) (by repeat' constructor) ?_ (injOK_b rfl) rfl rfl rfl⟩
   repeat' constructor
   all_goals simp
  repeat (first | refine VIf.tt ?_ | refine VIf.ff ?_)
  refine VFn.p (Has18_fn _ cells j M2 (hI.le m2)) ?_
  repeat (first | refine VIf.tt ?_ | refine VIf.ff ?_)
  refine VIf.mk (fun e2 => ?_) (fun e2 => ?_)
  ·refine VFn.mk _ (hS M2 m2 j hjb) ?_
   rintro rs M3 hM3 ⟨s, rfl, hsq⟩
   refine VFn.mk _ (Met04_fn _ s p _ M3 (hp.le (m2.trans hM3)) hsq hV (sqC_valid hF hjb) (sqC_len _)) ?_
   rintro rs M4 hM4 ⟨q, rfl, hq⟩
   obtain ⟨qa, qk, rfl⟩ := Pts.shape (ps := pieC c p j) hq
   obtain ⟨g1, g2⟩ := hyes (hM3.trans hM4) hq (by rw [hok1, e2, Bool.or_true])
   have hb : (ys.length + 1) * 24 ≤ 140737488355328 := by omega
   refine VFact.mk hb ?_
   refine VArith.ok (by first | omega | (simp only; omega)) (by first | omega | (simp only; omega)) ?_
   refine ⟨(k + 1, ys ++ [.slice qa (pieC c p j).length qk], al, M4), ⟨⟨hM2.trans (hM3.trans hM4), hlt⟩, g1, g2⟩, (by first | omega | (simp only; omega)), Wk.mk' (fun i => if i = 3 then 5 else i) (by repeat' constructor) ?_ (injOK_b rfl) rfl rfl rfl⟩
   repeat' constructor
   all_goals simp
  ·obtain ⟨g1, g2⟩ := hno (by rw [hok1, e1, e2]; rfl)
   refine VArith.ok (by first | omega | (simp only; omega)) (by first | omega | (simp only; omega)) ?_
   exact ⟨(k + 1, ys, false, M2), ⟨⟨hM2, hlt⟩, g1, g2⟩, (by first | omega | (simp only; omega)), (Wk.mk' id (by repeat' constructor) (by repeat' constructor) (injOK_id _) rfl rfl rfl)⟩
 have : k = L.length := by have := ge_of_dec hge; omega
 subst this
 rw [List.take_length] at h3 h4
 have n1 := hM1.trans hM2
 refine VCode.st cxOK ?_
 refine VIf.mk (fun e => ?_) (fun e => ?_)
 ·refine VFz.mk fun x Bx M3 hM3 hx => ?_
  refine VFact.mk ⟨x, rfl, ?_⟩ trivial
  unfold echP
  rw [← hok, ← hL, ← h4, if_pos e]
  exact RegV.of1 hx (hp.le (n1.trans hM3)) (valid_64 hV)
 refine VCode.st cxOK ?_
 refine VFn.mk _ (hB M2 n1 0 ⟨Int.le_refl _, by omega⟩) ?_
 rintro rs M3 hM3 rfl
 refine VCode.st cxOK ?_
 refine VArith.ok (by first | omega | (simp only; omega)) (by first | omega | (simp only; omega)) ?_
 refine VFn.mk _ (hB M3 (n1.trans hM3) (lastI c) ⟨by unfold lastI; omega, by unfold lastI; omega⟩) ?_
 rintro rs M4 hM4 rfl
 refine VCode.of_vc cxOK ?_
 refine VFz.mk fun x Bx M5 hM5 hx => ?_
 have n5 := n1.trans (hM3.trans (hM4.trans hM5))
 have hr : RegV M5 x [p] := RegV.of1 hx (hp.le n5) (valid_64 hV)
 refine VFn.mk _ (Without07_fn x [p] (bLo c 0) (bHi c (lastI c)) M5 hr (fun q hq => by rw [List.mem_singleton.1 hq]; exact hV) (by simp) (sq_bd hF (i := 0) ⟨Int.le_refl _, by omega⟩).2.1 (sq_bd hF (i := lastI c) ⟨by unfold lastI; omega, by unfold lastI; omega⟩).2.2) ?_
 rintro rs M6 hM6 ⟨o, rfl, ho⟩
 obtain ⟨zs, z1, z2⟩ := ho.pls
 have hRl := tidy_len ([p].flatMap (outP (bLo c 0) (bHi c (lastI c))))
 have hRl : (withoutB [p] (bLo c 0) (bHi c (lastI c))).length ≤ 32 := hRl
 have hyl : ys.length ≤ 4000 := by
  have e1 := h3.1
  rw [List.length_map] at e1
  have e2 := List.length_filter_le ok L
  omega
 obtain ⟨oa, ok', rfl⟩ := ho.shape
 refine VSl.mk _ _ z1 ?_
 have hb : (ys.length + (withoutB [p] (bLo c 0) (bHi c (lastI c))).length) * 24 ≤ 140737488355328 := by omega
 refine VFact.mk hb ?_
 refine VFz.mk fun y By M7 hM7 hy => ?_
 refine VFact.mk ⟨y, rfl, ?_⟩ trivial
 unfold echP
 rw [← hok, ← hL, ← h4, if_neg (by rw [e]; exact Bool.false_ne_true)]
 refine RegV.of' hy ?_ (((h3.le (hM3.trans (hM4.trans (hM5.trans hM6)))).app z2).le hM7)
 rw [List.length_append, ← h3.1]
end Go.Proofs.YtcdlplobniogpaaGreat
namespace Go.Proofs.YtcdlplobniogpaaGreat
open Go Go.V Go.RowKit
set_option maxRecDepth 20000 in
set_option maxHeartbeats 4000000 in
theorem Left18_fn (c : ChartS) (a b d rv cv : Value) (h v : Pt) (r : List (List Pt)) (cells : List Int) (M : Mem) (hc : Cha M c a b d) (hr : RegV M rv r) (hI : IntsV M cv cells) (hs : sndB c h v = true) (hR : regionB r = true) :
  V.Fn Tryz.prog 42 [chV c a b d, rv, ptv h, ptv v, cv] M fun rs M' => ∃ u, rs = [u] ∧ RegV M' u (echL c h v cells r) := by
 have hs' : validC c = true ∧ heiB h = true ∧ depB v = true := by simpa only [sndB, Bool.and_eq_true] using hs
 have hF := validC_frame hs'.1
 have hr32 : r.length ≤ 32 := by
  simp only [regionB, Bool.and_eq_true, decide_eq_true_eq] at hR
  exact hR.1
 have hall : ∀ p ∈ r, validB p = true := by
  simp only [regionB, Bool.and_eq_true] at hR
  exact fun p hp => List.all_eq_true.1 hR.2 p hp
 have hP := fun M' (hM : M.le M') w p hp hV => pieces18_fn c a b d w cv h v p cells M' (hc.le hM) hp (hI.le hM) hs hV
 obtain ⟨⟨ad, ka, rfl⟩, ⟨bd, kb, rfl⟩, dd, kd, rfl⟩ := hc.shape
 obtain ⟨ra, rk, rfl, hrm, hrr⟩ := hr.get
 obtain ⟨ia, ik, rfl, him, hir⟩ := hI.get
 refine Fn.of_vc cxOK Tryz.func42 rfl rfl rfl ?_
 refine VCode.loop cxOK (Nat × List Value × Mem) (fun (⟨k, xs, M1⟩ : Nat × List Value × Mem) => ⟨[(1, .v (.slice ra r.length rk)), (4, .v (.slice ia cells.length ik)), (5, .box 0 0), (7, .box 1 0), (8, .box 2 0), (11, .row 3), (12, .v (.int .i64 k))], [(0, some (.box 26 [.v (.int .i64 c.ver), .v (.int .i64 c.x), .v (.int .i64 c.y), .v (.int .i64 c.w), .v (.int .i64 c.h), .v (.int .i64 c.sz), .v (.slice ad c.cs.length ka), .v (.slice bd c.bs.length kb), .v (.slice dd c.ls.length kd)])), (1, some (.box 29 [.v (.int .i64 h.1), .v (.int .i64 h.2)])), (2, some (.box 29 [.v (.int .i64 v.1), .v (.int .i64 v.2)])), (3, some (.row 64 1 xs.length xs))], 4, M1, 31, ⟨fun _ => none, none, fun _ => none⟩⟩)
  (fun (⟨k, xs, M1⟩ : Nat × List Value × Mem) => (M.le M1 ∧ k ≤ r.length) ∧ PlsV M1 xs (echL c h v cells (r.take k))) (fun (⟨k, _, _⟩ : Nat × List Value × Mem) => r.length - k) (0, [], M) ⟨⟨Mem.le_refl _, Nat.zero_le _⟩, PlsV.nil _⟩
  (Wk.nil 11 64 1 rfl (Wk.mk' id (by repeat' constructor) (by repeat' constructor) (injOK_id _) rfl rfl rfl)) ?_
 rintro ⟨k, xs, M1⟩ ⟨⟨hM1, hk⟩, hxs⟩ m
 have hxl : xs.length ≤ 200000 := by
  have h1 := flatMap_len (echP c h v cells) 4032 (echP_len hF h v cells) (r.take k)
  have h2 := hxs.1
  unfold echL at h2
  rw [List.length_take] at h1
  omega
 refine VIf.mk (fun hlt => ?_) (fun hge => ?_)
 rotate_left
 ·have : k = r.length := by have := ge_of_dec hge; omega
  subst this
  rw [List.take_length] at hxs
  refine VFz.mk fun x Bx M2 hM2 hx => ?_
  exact VFact.mk ⟨x, rfl, RegV.of' hx hxs.1 (hxs.le hM2)⟩ trivial
 have hlt := lt_of_dec hlt
 obtain ⟨a1, w1, f1, p1, q1, c1⟩ := hrr M1 hM1 k hlt
 have hV : validB (gr r k) = true := val_gr hall hlt
 have p1 : Pts M1 w1 (gr r k) := p1
 have hst := echL_take c h v cells r hlt
 have hl1 := echP_len hF h v cells (gr r k)
 generalize gr r k = p at *
 refine VDraw.go (by kernel_rfl) ?_
 refine VIdx.mk a1 k f1 rfl hlt ?_
 refine VRead.mk _ c1 ?_
 refine VFn.mk _ (hP M1 hM1 w1 p p1 hV) ?_
 rintro rs M2 hM2 ⟨u, rfl, hu⟩
 obtain ⟨ys, y1, y2⟩ := hu.pls
 obtain ⟨ua, uk, rfl⟩ := hu.shape
 refine VSl.mk _ _ y1 ?_
 have hb : (xs.length + (echP c h v cells p).length) * 24 ≤ 140737488355328 := by omega
 refine VFact.mk hb ?_
 refine VArith.ok (by first | omega | (simp only; omega)) (by first | omega | (simp only; omega)) ?_
 refine ⟨(k + 1, xs ++ ys, M2), ⟨⟨hM1.trans hM2, hlt⟩, by rw [hst]; exact (hxs.le hM2).app y2⟩, (by first | omega | (simp only; omega)), Wk.mk' (fun i => if i = 3 then 4 else i) (by repeat' constructor) ?_ (injOK_b rfl) rfl rfl rfl⟩
 repeat' constructor
 all_goals simp [y2.1]
theorem Cut18_fn (c : ChartS) (a b d rv cv : Value) (h v : Pt) (r : List (List Pt)) (cells : List Int) (M : Mem) (hc : Cha M c a b d) (hr : RegV M rv r) (hI : IntsV M cv cells) :
  V.Fn Tryz.prog 17 [chV c a b d, rv, ptv h, ptv v, cv] M fun rs M' => if echOK c h v cells r = true then (if (echL c h v cells r).length ≤ 4000 then ∃ u, rs = [u, .int .i64 0] ∧ RegV M' u (tidyB (echL c h v cells r)) else rs = [.slice none 0 0, .int .i64 2]) else rs = [.slice none 0 0, .int .i64 1] := by
 have hR := right18_fn c a b d h v M hc
 have hV := regValidR_fn rv r M hr
 have hG := Rising18_fn c a b d cv cells M hc hI
 have hL := Left18_fn c a b d rv cv h v r cells M hc hr hI
 obtain ⟨⟨ad, ka, rfl⟩, ⟨bd, kb, rfl⟩, dd, kd, rfl⟩ := hc.shape
 obtain ⟨ra, rk, rfl, hrm, hrr⟩ := hr.get
 obtain ⟨ia, ik, rfl, him, hir⟩ := hI.get
 refine Fn.of_vc cxOK Tryz.func17 rfl rfl rfl ?_
 refine VFn.p hR ?_
 refine VIf.mk (fun e1 => ?_) (fun e1 => ?_)
 ·repeat (first | refine VIf.tt ?_ | refine VIf.ff ?_)
  exact VFact.mk (by unfold echOK; rw [bn1 e1]; rfl) trivial
 have e1 := bn2 e1
 repeat (first | refine VIf.tt ?_ | refine VIf.ff ?_)
 refine VFn.p hV ?_
 repeat (first | refine VIf.tt ?_ | refine VIf.ff ?_)
 refine VIf.mk (fun e2 => ?_) (fun e2 => ?_)
 ·repeat (first | refine VIf.tt ?_ | refine VIf.ff ?_)
  exact VFact.mk (by unfold echOK; rw [bn1 e2, Bool.false_and, Bool.and_false]; rfl) trivial
 have e2 := bn2 e2
 repeat (first | refine VIf.tt ?_ | refine VIf.ff ?_)
 refine VFn.p hG ?_
 repeat (first | refine VIf.tt ?_ | refine VIf.ff ?_)
 refine VIf.mk (fun e3 => ?_) (fun e3 => ?_)
 ·exact VFact.mk (by unfold echOK; rw [show decide (celP c cells cells.length) = false from bn1 e3, Bool.and_false, Bool.and_false]; rfl) trivial
 have e3 := bn2 e3
 have hok : echOK c h v cells r = true := by unfold echOK; rw [e1, e2, show decide (celP c cells cells.length) = true from e3]; rfl
 rw [hok]
 simp only [if_true]
 have hall : ∀ p ∈ r, validB p = true := by
  simp only [regionB, Bool.and_eq_true] at e2
  exact fun p hp => List.all_eq_true.1 e2.2 p hp
 have hval : ∀ q ∈ echL c h v cells r, validB q = true := fun q hq => by
  obtain ⟨p, hp, hq⟩ := List.mem_flatMap.1 hq
  exact echP_valid (hall p hp) q hq
 refine VFn.mk _ (hL e1 e2) ?_
 rintro rs M1 hM1 ⟨u, rfl, hu⟩
 obtain ⟨ua, uk, rfl⟩ := hu.shape
 refine VIf.mk (fun hbig => ?_) (fun hbig => ?_)
 ·have hbig := of_decide_eq_true hbig
  exact VFact.mk (by show (if (echL c h v cells r).length ≤ 4000 then _ else _); rw [if_neg (by omega)]) trivial
 have hbig : (echL c h v cells r).length ≤ 4000 := by have := of_decide_eq_false hbig; omega
 refine VFn.mk _ (Tidied07_fn _ _ M1 hu hval (by omega)) ?_
 rintro rs M2 hM2 ⟨y, rfl, hy⟩
 exact VFact.mk (by show (if (echL c h v cells r).length ≤ 4000 then _ else _); rw [if_pos hbig]; exact ⟨y, rfl, hy⟩) trivial
end Go.Proofs.YtcdlplobniogpaaGreat
namespace Go.Proofs.YtcdlplobniogpaaGreat
open Go Go.V Go.RowKit
def fndP (c : ChartS) (x : Pt) (k : Int) : Prop := (k = -1 ∧ ∀ i : Int, 0 ≤ i ∧ i < c.cs.length → meetsP (bLo c i) (bHi c i) x x = false) ∨ ((0 ≤ k ∧ k < c.cs.length) ∧ meetsP (bLo c k) (bHi c k) x x = true)
theorem Find15_fn (c : ChartS) (a b d : Value) (x : Pt) (M : Mem) (hc : Cha M c a b d) (hF : frameC c) : V.Fn Tryz.prog 23 [chV c a b d, ptv x] M fun rs _ => ∃ k : Int, rs = [.int .i64 k] ∧ fndP c x k := by
 have hB := fun M' (hM : M.le M') i hi => Bounds15_fn c a b d i M' (hc.le hM) hF hi
 have hc4 := hF.1.2.2.2.2.1
 obtain ⟨⟨ad, ka, rfl⟩, ⟨bd, kb, rfl⟩, dd, kd, rfl⟩ := hc.shape
 refine Fn.of_vc cxOK Tryz.func23 rfl rfl rfl ?_
 refine VCode.loop cxOK (Nat × Mem) (fun (⟨k, M1⟩ : Nat × Mem) => ⟨[(2, .box 0 0), (3, .box 1 0), (5, .v (.int .i64 k))], [(0, some (.box 26 (chSV c (.slice ad c.cs.length ka) (.slice bd c.bs.length kb) (.slice dd c.ls.length kd)))), (1, some (.box 44 [.v (.int .i64 x.1), .v (.int .i64 x.2)]))], 2, M1, 27, ⟨fun _ => none, none, fun _ => none⟩⟩)
  (fun (⟨k, M1⟩ : Nat × Mem) => M.le M1 ∧ k ≤ c.cs.length ∧ ∀ i : Int, 0 ≤ i ∧ i < k → meetsP (bLo c i) (bHi c i) x x = false) (fun (⟨k, _⟩ : Nat × Mem) => c.cs.length - k) (0, M) ⟨Mem.le_refl _, Nat.zero_le _, fun i hi => by omega⟩ (Wk.mk' id (by repeat' constructor) (by repeat' constructor) (injOK_id _) rfl rfl rfl) ?_
 rintro ⟨k, M1⟩ ⟨hM1, hk, hz⟩ m
 refine VIf.mk (fun hlt => ?_) (fun hge => ?_)
 ·have hlt := lt_of_dec hlt
  have hib : 0 ≤ (k : Int) ∧ (k : Int) < c.cs.length := by omega
  refine VFn.mk _ (hB M1 hM1 k hib) ?_
  rintro rs M2 hM2 rfl
  refine VFn.p (Meet15_fn _ _ _ _ M2) ?_
  refine VIf.mk (fun e => ?_) (fun e => ?_)
  ·exact VFact.mk (show ∃ k : Int, _ = _ ∧ _ from ⟨k, rfl, .inr ⟨hib, e⟩⟩) trivial
  ·refine VArith.ok (by first | omega | (simp only; omega)) (by first | omega | (simp only; omega)) ?_
   refine ⟨(k + 1, M2), ⟨hM1.trans hM2, hlt, fun i hi => ?_⟩, (by first | omega | (simp only; omega)), (Wk.mk' id (by repeat' constructor) (by repeat' constructor) (injOK_id _) rfl rfl rfl)⟩
   by_cases ei : i = k
   ·subst ei; exact e
   ·exact hz i (by omega)
 ·have : k = c.cs.length := by have := ge_of_dec hge; omega
  subst this
  exact VFact.mk (show ∃ k : Int, _ = _ ∧ _ from ⟨-1, rfl, .inl ⟨rfl, hz⟩⟩) trivial
end Go.Proofs.YtcdlplobniogpaaGreat
namespace Go.Proofs.YtcdlplobniogpaaGreat
open Go Go.V Go.RowKit
def exE : ChartS := ⟨1, 0, 0, 2, 1, 10, [⟨100, 200, 0, false⟩, ⟨500, 600, 0, false⟩], [], []⟩
theorem example18_fn (M : Mem) : V.Fn Tryz.prog 29 [] M fun rs M' => ∃ a b d, rs = [chV exE a b d] ∧ Cha M' exE a b d := by
 refine Fn.of_vc cxOK Tryz.func29 rfl rfl rfl ?_
 refine VFz.mk fun x Bx M1 hM1 hx => ?_
 have hc : CelsV M1 x exE.cs := Arr.of [[.int .i64 100, .int .i64 200, .int .i64 0, .bool false], [.int .i64 500, .int .i64 600, .int .i64 0, .bool false]] (by simp) hx
  ⟨⟨rfl, by decide, by decide, by decide⟩, ⟨rfl, by decide, by decide, by decide⟩, trivial⟩
 obtain ⟨xa, xc, rfl, _⟩ := hc.get
 refine VFact.mk ⟨_, _, _, rfl, ⟨by decide, by decide, by decide, by decide, by decide, by decide⟩, hc, ?_, ?_⟩ trivial
 ·exact Arr.of [] (by simp) (SlAt.nil M1 3) trivial
 ·exact Arr.of [] (by simp) (SlAt.nil M1 2) trivial
end Go.Proofs.YtcdlplobniogpaaGreat
namespace Go.Proofs.YtcdlplobniogpaaGreat
open Go Go.V Go.RowKit
theorem conL_lt (c : ChartS) (h v : Pt) (r : List (List Pt)) : (conL c h v r).Pairwise (· < ·) := by
 unfold conL
 obtain ⟨S, hS⟩ : ∃ S, S = (r.flatMap (conA c h v)).mergeSort fun x y => decide (x ≤ y) := ⟨_, rfl⟩
 have h1 : S.Pairwise (fun a b => decide (a ≤ b) = true) := by
  rw [hS]
  exact List.pairwise_mergeSort (fun a b c h1 h2 => by simp only [decide_eq_true_eq] at *; omega) (fun a b => by simp only [Bool.or_eq_true, decide_eq_true_eq]; omega) _
 rw [← hS]
 have h2 : (S.map fun i => ((i, 0) : Pt)).Pairwise lexLe := by
  rw [List.pairwise_map]
  refine h1.imp fun {a b} hab => ?_
  have := of_decide_eq_true hab
  unfold lexLe
  simp only
  omega
 have h3 := compact_sorted h2
 rw [List.pairwise_map]
 have hz : ∀ p ∈ compactP (S.map fun i => ((i, 0) : Pt)), p.2 = 0 := fun p hp => by
  obtain ⟨i, _, rfl⟩ := List.mem_map.1 (compact_mem.1 hp)
  rfl
 refine h3.imp_of_mem fun {a b} ha hb hab => ?_
 have ea := hz a ha
 have eb := hz b hb
 unfold lexLt at hab
 omega
theorem mem_conL {c : ChartS} {h v : Pt} {r : List (List Pt)} {i : Int} : i ∈ conL c h v r ↔ i ∈ r.flatMap (conA c h v) := by
 refine ⟨conL_mem1, fun hi => ?_⟩
 unfold conL
 refine List.mem_map.2 ⟨(i, 0), compact_mem.2 (List.mem_map.2 ⟨i, List.mem_mergeSort.2 hi, rfl⟩), rfl⟩
theorem mem_conA {c : ChartS} {h v : Pt} {r : List (List Pt)} {i : Int} : i ∈ r.flatMap (conA c h v) ↔ fitI c h v i = false ∧ i ∈ r.flatMap (touI c) := by
 simp only [List.mem_flatMap, conA, List.mem_filter, Bool.not_eq_true']
 constructor
 ·rintro ⟨p, hp, h1, h2⟩; exact ⟨h2, p, hp, h1⟩
 ·rintro ⟨h2, p, hp, h1⟩; exact ⟨p, hp, h1, h2⟩
theorem mem_agaL {c : ChartS} {h v : Pt} {r : List (List Pt)} {i : Int} : i ∈ agaL c h v r c.cs.length ↔ fitI c h v i = false ∧ i ∈ r.flatMap (touI c) := by
 unfold agaL
 simp only [List.mem_filter, List.mem_map, List.mem_range, Bool.and_eq_true, Bool.not_eq_true', decide_eq_true_eq]
 constructor
 ·rintro ⟨_, h1, h2⟩; exact ⟨h1, h2⟩
 ·rintro ⟨h1, h2⟩
  refine ⟨?_, h1, h2⟩
  obtain ⟨p, _, hp⟩ := List.mem_flatMap.1 h2
  have := touI_bd hp
  exact ⟨i.toNat, by omega, by simp only [Int.ofNat_eq_natCast]; omega⟩
theorem agaL_lt (c : ChartS) (h v : Pt) (r : List (List Pt)) (k : Nat) : (agaL c h v r k).Pairwise (· < ·) := by
 unfold agaL
 refine List.Pairwise.filter _ ?_
 rw [List.pairwise_map]
 refine List.pairwise_lt_range.imp fun {a b} hab => ?_
 simp only [Int.ofNat_eq_natCast]
 omega
theorem conL_eq (c : ChartS) (h v : Pt) (r : List (List Pt)) : conL c h v r = agaL c h v r c.cs.length :=
 sorted_ext (conL_lt c h v r) (agaL_lt c h v r _) fun i => by rw [mem_conL, mem_conA, mem_agaL]
end Go.Proofs.YtcdlplobniogpaaGreat
namespace Go.Proofs.YtcdlplobniogpaaGreat
open Go Go.V Go.RowKit
def exR : List (List Pt) := [[(0, 0), (19, 0), (19, 9), (0, 9)]]
def exH : Pt := (-10, 10)
def exV : Pt := (150, 160)
theorem ex_snd : sndB exE exH exV = true := by decide +kernel
theorem ex_reg : regionB exR = true := by decide +kernel
theorem ex_fit : fitI exE exH (611, 700) 1 = false ∧ fitI exE exH (610, 700) 1 = true := by decide +kernel
theorem ex_not : sndB exE (0, 2001) exV = false := by decide +kernel
theorem ex_ok : echOK exE exH exV [] exR = true ∧ echOK exE exH exV [1] exR = true ∧ echOK exE exH exV [1, 1] exR = false := by decide +kernel
def ex0 : List Pt := [(0, 0), (9, 0), (9, 9), (0, 9)]
def ex1 : List Pt := [(10, 0), (19, 0), (19, 9), (10, 9)]
def exP : List Pt := [(0, 0), (19, 0), (19, 9), (0, 9)]
theorem ex_s0 : sqC exE 0 = ex0 := around_eq (hl_of_has (by decide +kernel) (by decide +kernel) (by decide +kernel))
theorem ex_s1 : sqC exE 1 = ex1 := around_eq (hl_of_has (by decide +kernel) (by decide +kernel) (by decide +kernel))
theorem ex_und : underC exE (boxLo exP) (boxHi exP) = [0, 1] := by decide +kernel
theorem ex_tou : touI exE exP = [0, 1] := by
 unfold touI
 rw [ex_und, List.filter_cons, List.filter_cons, ex_s0, ex_s1, List.filter_nil]
 decide +kernel
theorem ex_con : agaL exE exH exV exR 2 = [1] := by
 have e : exR.flatMap (touI exE) = [0, 1] := by
  show touI exE exP ++ [] = _
  rw [ex_tou]; rfl
 unfold agaL
 rw [e]
 decide +kernel
theorem ex_p0 : pieC exE exP 0 = ex0 := by
 unfold pieC
 rw [ex_s0]
 exact arC_eq (by decide +kernel) (by decide +kernel) (by decide +kernel) (by decide +kernel) (by decide +kernel)
theorem ex_l1 : echL exE exH exV [1] exR = exR := by
 show echP exE exH exV [1] exP ++ [] = _
 unfold echP
 rw [ex_tou]
 decide +kernel
end Go.Proofs.YtcdlplobniogpaaGreat
namespace Go.Proofs.YtcdlplobniogpaaGreat
open Go Go.V Go.RowKit
theorem ex_t0 : tidyB [ex0] = [ex0] := by decide +kernel
theorem ex_t1 : tidyB exR = exR := by decide +kernel
theorem ex_wo : withoutB [exP] (bLo exE 0) (bHi exE (lastI exE)) = [] := by
 have e1 : bLo exE 0 = (0, 0) := by decide +kernel
 have e2 : bHi exE (lastI exE) = (19, 9) := by decide +kernel
 have c1 : cutA exP 1 0 (-1) = [] := by decide +kernel
 have c2 : cutA exP (-1) 0 (-20) = [] := by decide +kernel
 have c3 : cutA exP (-1) 0 0 ≠ [] := by decide +kernel
 have c4 : cutA exP 1 0 19 ≠ [] := by decide +kernel
 have a3 : arC (cutA exP (-1) 0 0) = exP := arC_eq c3 (by decide +kernel) (by decide +kernel) (by decide +kernel) (by decide +kernel)
 have a4 : arC (cutA exP 1 0 19) = exP := arC_eq c4 (by decide +kernel) (by decide +kernel) (by decide +kernel) (by decide +kernel)
 have c5 : cutA exP 0 1 (-1) = [] := by decide +kernel
 have c6 : cutA exP 0 (-1) (-10) = [] := by decide +kernel
 rw [e1, e2]
 have em : midL exP (0, 0) (19, 9) = [exP] := by
  unfold midL
  rw [leftL_one, show (-((0 : Int), (0 : Int)).1) = 0 from rfl, optL, if_neg c3, a3, leftL_one]
  rw [show (((19 : Int), (9 : Int)).1) = 19 from rfl, optL, if_neg c4, a4]
 have eo : outP (0, 0) (19, 9) exP = [] := by
  unfold outP
  rw [em, leftL_one, leftL_one, leftL_one, leftL_one]
  show optL (cutA exP 1 0 (-1)) ++ (optL (cutA exP (-1) 0 (-20)) ++ (optL (cutA exP 0 1 (-1)) ++ optL (cutA exP 0 (-1) (-10)))) = []
  rw [c1, c2, c5, c6]
  rfl
 unfold withoutB
 show tidyB (outP (0, 0) (19, 9) exP ++ []) = []
 rw [eo]
 decide +kernel
theorem ex_l0 : echL exE exH exV [] exR = [ex0] := by
 show echP exE exH exV [] exP ++ [] = _
 unfold echP
 rw [ex_tou, ex_wo]
 have e : ([0, 1] : List Int).filter (okI exE exH exV []) = [0] := by decide +kernel
 have e2 : ([0, 1] : List Int).all (okI exE exH exV []) = false := by decide +kernel
 rw [e, e2, if_neg Bool.false_ne_true, List.map_singleton, ex_p0]
 rfl
end Go.Proofs.YtcdlplobniogpaaGreat
namespace Go.Proofs.YtcdlplobniogpaaGreat
open Go Go.V Go.RowKit
theorem Few15b_fn (c : ChartS) (a b d : Value) (M : Mem) (h : Cha M c a b d) : V.Fn Tryz.prog 30 [chV c a b d] M fun rs _ => ∃ b, rs = [.bool b] ∧ (b = true → c.cs.length ≤ 64) := by
 obtain ⟨dd, kd, ed, hld, hrl⟩ := h.ls.get
 obtain ⟨⟨ad, ka, ea⟩, ⟨bd, kb, eb⟩, _⟩ := h.shape
 subst ea; subst eb; subst ed
 refine Fn.of_vc cxOK Tryz.func30 rfl rfl rfl ?_
 refine VCode.loop cxOK Nat (fun i => ⟨[(1, .box 0 0), (3, .v (.int .i64 i))], [(0, some (.box 26 (chSV c (.slice ad c.cs.length ka) (.slice bd c.bs.length kb) (.slice dd c.ls.length kd))))], 1, M, 39, ⟨fun _ => none, none, fun _ => none⟩⟩)
  (fun i => i ≤ c.ls.length) (fun i => c.ls.length - i) 0 (Nat.zero_le _) (Wk.mk' id (by repeat' constructor) (by repeat' constructor) (injOK_id _) rfl rfl rfl) ?_
 rintro i hi m
 refine VIf.mk (fun h1 => ?_) (fun h1 => ?_)
 ·have hlt := lt_of_dec h1
  repeat (first | refine VIf.tt ?_ | refine VIf.ff ?_)
  refine VIf.mk (fun h2 => ?_) (fun h2 => ?_)
  ·obtain ⟨a1, w, e1, _, hpt, _, p1⟩ := hrl M (Mem.le_refl _) i hlt
   obtain ⟨wa, wc, rfl⟩ := hpt.shape
   refine VIdx.mk a1 i e1 rfl hlt ?_
   refine VRead.mk (.slice wa (gli c.ls i).ps.length wc) (p1 1 _ rfl) ?_
   refine VIf.mk (fun h3 => ?_) (fun h3 => ?_)
   ·exact VFact.mk (show ∃ b, _ = _ ∧ _ from ⟨false, rfl, fun h => by cases h⟩) trivial
   ·refine VArith.ok (by first | omega | (simp only; omega)) (by first | omega | (simp only; omega)) ?_
    exact ⟨i + 1, hlt, (by first | omega | (simp only; omega)), (Wk.mk' id (by repeat' constructor) (by repeat' constructor) (injOK_id _) rfl rfl rfl)⟩
  ·refine VIf.mk (fun h3 => ?_) (fun h3 => ?_)
   ·have h3 := of_decide_eq_true h3
    repeat (first | refine VIf.tt ?_ | refine VIf.ff ?_)
    refine VIf.mk (fun h4 => ?_) (fun h4 => ?_)
    ·repeat (first | refine VIf.tt ?_ | refine VIf.ff ?_)
     exact VFact.mk (show ∃ b, _ = _ ∧ _ from ⟨_, rfl, fun _ => by omega⟩) trivial
    ·repeat (first | refine VIf.tt ?_ | refine VIf.ff ?_)
     exact VFact.mk (show ∃ b, _ = _ ∧ _ from ⟨_, rfl, fun _ => by omega⟩) trivial
   ·repeat (first | refine VIf.tt ?_ | refine VIf.ff ?_)
    exact VFact.mk (show ∃ b, _ = _ ∧ _ from ⟨false, rfl, fun h => by cases h⟩) trivial
 ·repeat (first | refine VIf.tt ?_ | refine VIf.ff ?_)
  refine VIf.mk (fun h3 => ?_) (fun h3 => ?_)
  ·have h3 := of_decide_eq_true h3
   repeat (first | refine VIf.tt ?_ | refine VIf.ff ?_)
   refine VIf.mk (fun h4 => ?_) (fun h4 => ?_)
   ·repeat (first | refine VIf.tt ?_ | refine VIf.ff ?_)
    exact VFact.mk (show ∃ b, _ = _ ∧ _ from ⟨_, rfl, fun _ => by omega⟩) trivial
   ·repeat (first | refine VIf.tt ?_ | refine VIf.ff ?_)
    exact VFact.mk (show ∃ b, _ = _ ∧ _ from ⟨_, rfl, fun _ => by omega⟩) trivial
  ·repeat (first | refine VIf.tt ?_ | refine VIf.ff ?_)
   exact VFact.mk (show ∃ b, _ = _ ∧ _ from ⟨false, rfl, fun h => by cases h⟩) trivial
theorem few18_fn (c : ChartS) (a b d rv : Value) (r : List (List Pt)) (M : Mem) (hc : Cha M c a b d) (hr : RegV M rv r) : V.Fn Tryz.prog 10 [chV c a b d, rv] M fun rs _ => ∃ b, rs = [.bool b] ∧ (b = true → c.cs.length ≤ 64 ∧ r.length ≤ 8) := by
 have h1 := Few15b_fn c a b d M hc
 have h2 := fun M' (hM : M.le M') => Few07_fn rv r M' (hr.le hM)
 obtain ⟨⟨ad, ka, rfl⟩, ⟨bd, kb, rfl⟩, dd, kd, rfl⟩ := hc.shape
 obtain ⟨ra, rk, rfl, hrm, hrr⟩ := hr.get
 refine Fn.of_vc cxOK Tryz.func10 rfl rfl rfl ?_
 refine VFn.mk _ h1 ?_
 rintro rs M1 hM1 ⟨b1, rfl, hb1⟩
 refine VIf.mk (fun e1 => ?_) (fun e1 => ?_)
 ·repeat (first | refine VIf.tt ?_ | refine VIf.ff ?_)
  refine VFn.mk _ (h2 M1 hM1) ?_
  rintro rs M2 hM2 ⟨b2, rfl⟩
  repeat (first | refine VIf.tt ?_ | refine VIf.ff ?_)
  refine VIf.mk (fun e2 => ?_) (fun e2 => ?_)
  ·repeat (first | refine VIf.tt ?_ | refine VIf.ff ?_)
   exact VFact.mk (show ∃ b, _ = _ ∧ _ from ⟨_, rfl, fun h => ⟨hb1 e1, by have := of_decide_eq_true h; omega⟩⟩) trivial
  ·repeat (first | refine VIf.tt ?_ | refine VIf.ff ?_)
   exact VFact.mk (show ∃ b, _ = _ ∧ _ from ⟨_, rfl, fun h => by cases h⟩) trivial
 ·repeat (first | refine VIf.tt ?_ | refine VIf.ff ?_)
  exact VFact.mk (show ∃ b, _ = _ ∧ _ from ⟨_, rfl, fun h => by cases h⟩) trivial
theorem usable18_fn (c : ChartS) (a b d rv cv : Value) (h v : Pt) (r : List (List Pt)) (cells : List Int) (M : Mem) (hc : Cha M c a b d) (hr : RegV M rv r) (hI : IntsV M cv cells) :
  V.Fn Tryz.prog 19 [chV c a b d, rv, ptv h, ptv v, cv] M fun rs _ => ∃ b, rs = [.bool b] ∧ (b = true → (c.cs.length ≤ 64 ∧ r.length ≤ 8) ∧ echOK c h v cells r = true) := by
 have h1 := few18_fn c a b d rv r M hc hr
 have h2 := fun M' (hM : M.le M') => Valid15_fn c a b d M' (hc.le hM)
 have h3 := fun M' (hM : M.le M') => regValidR_fn rv r M' (hr.le hM)
 have h4 := fun M' (hM : M.le M') => Rising18_fn c a b d cv cells M' (hc.le hM) (hI.le hM)
 obtain ⟨⟨ad, ka, rfl⟩, ⟨bd, kb, rfl⟩, dd, kd, rfl⟩ := hc.shape
 obtain ⟨ra, rk, rfl, hrm, hrr⟩ := hr.get
 obtain ⟨ia, ik, rfl, him, hir⟩ := hI.get
 have no : ∀ {b : Bool}, b = false → ∃ b', [Value.bool b] = [.bool b'] ∧ (b' = true → (c.cs.length ≤ 64 ∧ r.length ≤ 8) ∧ echOK c h v cells r = true) := fun {b} hb => ⟨b, rfl, fun h => by rw [hb] at h; cases h⟩
 refine Fn.of_vc cxOK Tryz.func19 rfl rfl rfl ?_
 refine VFn.mk _ h1 ?_
 rintro rs M1 hM1 ⟨b1, rfl, hb1⟩
 refine VIf.mk (fun e1 => ?_) (fun e1 => ?_)
 rotate_left
 ·repeat (first | refine VIf.tt ?_ | refine VIf.ff ?_)
  exact VFact.mk (no rfl) trivial
 repeat (first | refine VIf.tt ?_ | refine VIf.ff ?_)
 refine VIf.mk (fun e2 => ?_) (fun e2 => ?_)
 rotate_left
 ·repeat (first | refine VIf.tt ?_ | refine VIf.ff ?_)
  exact VFact.mk (no rfl) trivial
 repeat (first | refine VIf.tt ?_ | refine VIf.ff ?_)
 refine VFn.p (h2 M1 hM1) ?_
 repeat (first | refine VIf.tt ?_ | refine VIf.ff ?_)
 refine VIf.mk (fun e3 => ?_) (fun e3 => ?_)
 rotate_left
 ·repeat (first | refine VIf.tt ?_ | refine VIf.ff ?_)
  exact VFact.mk (no rfl) trivial
 repeat (first | refine VIf.tt ?_ | refine VIf.ff ?_)
 refine VFn.p (h3 M1 hM1) ?_
 repeat (first | refine VIf.tt ?_ | refine VIf.ff ?_)
 refine VIf.mk (fun e4 => ?_) (fun e4 => ?_)
 rotate_left
 ·repeat (first | refine VIf.tt ?_ | refine VIf.ff ?_)
  exact VFact.mk (no rfl) trivial
 repeat (first | refine VIf.tt ?_ | refine VIf.ff ?_)
 refine VFn.p (Height18_fn h M1) ?_
 repeat (first | refine VIf.tt ?_ | refine VIf.ff ?_)
 refine VIf.mk (fun e5 => ?_) (fun e5 => ?_)
 rotate_left
 ·repeat (first | refine VIf.tt ?_ | refine VIf.ff ?_)
  exact VFact.mk (no rfl) trivial
 repeat (first | refine VIf.tt ?_ | refine VIf.ff ?_)
 refine VFn.p (Depth18_fn v M1) ?_
 repeat (first | refine VIf.tt ?_ | refine VIf.ff ?_)
 refine VIf.mk (fun e6 => ?_) (fun e6 => ?_)
 rotate_left
 ·repeat (first | refine VIf.tt ?_ | refine VIf.ff ?_)
  exact VFact.mk (no rfl) trivial
 repeat (first | refine VIf.tt ?_ | refine VIf.ff ?_)
 refine VFn.p (h4 M1 hM1) ?_
 repeat (first | refine VIf.tt ?_ | refine VIf.ff ?_)
 refine VFact.mk (show ∃ b, _ = _ ∧ _ from ⟨_, rfl, fun hq => ⟨hb1 e1, ?_⟩⟩) trivial
 unfold echOK sndB
 rw [e3, e4, e5, e6, show decide (celP c cells cells.length) = true from hq]; rfl
end Go.Proofs.YtcdlplobniogpaaGreat
namespace Go.Proofs.YtcdlplobniogpaaGreat
open Go Go.V Go.RowKit
theorem hCon {M : Mem} {a b d rv : Value} (hc : Cha M exE a b d) (hr : RegV M rv exR) : V.Fn Tryz.prog 13 [chV exE a b d, rv, ptv exH, ptv exV] M fun rs M' => ∃ u, rs = [u, .int .i64 0] ∧ IntsV M' u [1] := by
 have h := ConflictsE_fn exE a b d rv exH exV exR M hc hr
 have e : conL exE exH exV exR = [1] := (conL_eq _ _ _ _).trans ex_con
 simp only [ex_snd, ex_reg, and_self, if_true, e] at h
 exact h
theorem hConN {M : Mem} {a b d rv : Value} (hc : Cha M exE a b d) (hr : RegV M rv exR) : V.Fn Tryz.prog 13 [chV exE a b d, rv, ptv (0, 2001), ptv exV] M fun rs M' => rs = [.slice none 0 0, .int .i64 1] := by
 have h := ConflictsE_fn exE a b d rv (0, 2001) exV exR M hc hr
 simp only [ex_not, Bool.false_eq_true, false_and, if_false] at h
 exact h
theorem hCut0 {M : Mem} {a b d rv : Value} (hc : Cha M exE a b d) (hr : RegV M rv exR) : V.Fn Tryz.prog 16 [chV exE a b d, rv, ptv exH, ptv exV, .slice none 0 0] M fun rs M' => ∃ u, rs = [u, .int .i64 0] ∧ RegV M' u [ex0] := by
 have h := CutE_fn exE a b d rv (.slice none 0 0) exH exV exR [] M hc hr (IntsV.nil M)
 simp only [ex_ok.1, if_true, ex_l0, ex_t0] at h
 exact h
theorem hCut1 {M : Mem} {a b d rv cv : Value} (hc : Cha M exE a b d) (hr : RegV M rv exR) (hI : IntsV M cv [1]) : V.Fn Tryz.prog 16 [chV exE a b d, rv, ptv exH, ptv exV, cv] M fun rs M' => ∃ u, rs = [u, .int .i64 0] ∧ RegV M' u exR := by
 have h := CutE_fn exE a b d rv cv exH exV exR [1] M hc hr hI
 have e : exR.length ≤ 4000 := by decide
 simp only [ex_ok.2.1, if_true, ex_l1, ex_t1, e] at h
 exact h
theorem hCut2 {M : Mem} {a b d rv cv : Value} (hc : Cha M exE a b d) (hr : RegV M rv exR) (hI : IntsV M cv [1, 1]) : V.Fn Tryz.prog 16 [chV exE a b d, rv, ptv exH, ptv exV, cv] M fun rs M' => rs = [.slice none 0 0, .int .i64 1] := by
 have h := CutE_fn exE a b d rv cv exH exV exR [1, 1] M hc hr hI
 simp only [ex_ok.2.2, Bool.false_eq_true, if_false] at h
 exact h
theorem hFit {M : Mem} {a b d : Value} (hc : Cha M exE a b d) {v : Pt} {z : Bool} (hs : sndB exE exH v = true) (hz : fitI exE exH v 1 = z) : V.Fn Tryz.prog 11 [chV exE a b d, .int .i64 1, ptv exH, ptv v] M fun rs M' => rs = [.bool z, .int .i64 0] := by
 have h := FitsE_fn exE a b d 1 exH v M hc
 rw [if_pos ⟨hs, by decide⟩, hz] at h
 exact h
theorem hFit2 {M : Mem} {a b d : Value} (hc : Cha M exE a b d) : V.Fn Tryz.prog 11 [chV exE a b d, .int .i64 2, ptv exH, ptv exV] M fun rs M' => rs = [.bool false, .int .i64 1] := by
 have h := FitsE_fn exE a b d 2 exH exV M hc
 rw [if_neg (fun h => absurd h.2.2 (by decide))] at h
 exact h
end Go.Proofs.YtcdlplobniogpaaGreat
namespace Go.Proofs.YtcdlplobniogpaaGreat
open Go Go.V Go.RowKit
set_option maxRecDepth 20000 in
set_option maxHeartbeats 4000000 in
theorem head18_fn (M : Mem) : V.Fn Tryz.prog 9 [] M fun rs M' => rs = [.bool true] := by
 refine Fn.of_vcode cxOK Tryz.func9 rfl rfl rfl ?_
 refine VCode.st cxOK ?_
 refine VCode.st cxOK ?_
 refine VFn.mk _ (example18_fn M) ?_
 rintro rs M1 hM1 ⟨a, b, d, rfl, hc⟩
 obtain ⟨⟨ad, ka, rfl⟩, ⟨bd, kb, rfl⟩, dd, kd, rfl⟩ := hc.shape
 refine VCode.st cxOK ?_
 refine VCode.st cxOK ?_
 refine VFz.mk fun x Bx M2 hM2 hx => ?_
 have hP : Pts M2 x exP := hx
 obtain ⟨xa, xc, rfl⟩ := hP.shape
 refine VCode.frz [4] ?_
 refine VFz.mk fun y By M3 hM3 hy => ?_
 have hr : RegV M3 y exR := RegV.of1 hy (hP.le hM3) (valid_64 (by decide +kernel))
 obtain ⟨ya, yc, rfl⟩ := hr.shape
 have hc := hc.le (hM2.trans hM3)
 refine VCode.ease ⟨[(1, .box 0 0), (2, .box 1 0), (3, .box 2 0), (4, .v (.slice ya exR.length yc))], [(0, some (.box 26 [.v (.int .i64 1), .v (.int .i64 0), .v (.int .i64 0), .v (.int .i64 2), .v (.int .i64 1), .v (.int .i64 10), .v (.slice ad exE.cs.length ka), .v (.slice bd exE.bs.length kb), .v (.slice dd exE.ls.length kd)])), (1, some (.box 29 [.v (.int .i64 (-10)), .v (.int .i64 10)])), (2, some (.box 29 [.v (.int .i64 150), .v (.int .i64 160)]))], 3, M3, 152, ⟨fun _ => none, none, fun _ => none⟩⟩ (Wk.mk' id (by repeat' constructor) (by repeat' constructor) (injOK_id _) rfl rfl rfl) fun m => ?_
 refine VCode.st cxOK ?_
 refine VFn.mk _ (hCon hc hr) ?_
 rintro rs M4 hM4 ⟨u1, rfl, hu1⟩
 have hc := hc.le hM4
 have hr := hr.le hM4
 obtain ⟨a1, k1, rfl, _⟩ := hu1.get
 refine VCode.st cxOK ?_
 refine VFn.mk _ (hCut0 hc hr) ?_
 rintro rs M5 hM5 ⟨u2, rfl, hu2⟩
 have hc := hc.le hM5
 have hr := hr.le hM5
 have hu1 := hu1.le hM5
 obtain ⟨a2, k2, rfl⟩ := hu2.shape
 refine VCode.st cxOK ?_
 refine VFz.mk fun z1 Bz M6 hM6 hz1 => ?_
 have hI1 : IntsV M6 z1 [1] := IntsV.of hz1 (by decide)
 obtain ⟨a3, k3, rfl, _⟩ := hI1.get
 have hc := hc.le hM6
 have hr := hr.le hM6
 refine VFn.mk _ (hCut1 hc hr hI1) ?_
 rintro rs M7 hM7 ⟨u3, rfl, hu3⟩
 obtain ⟨a4, k4, rfl⟩ := hu3.shape
 have hc := hc.le hM7
 have hr := hr.le hM7
 have hu1 := hu1.le (hM6.trans hM7)
 have hu2 := hu2.le (hM6.trans hM7)
 refine VCode.st cxOK ?_
 refine VFn.mk _ (hFit hc (v := (611, 700)) (z := false) (by decide +kernel) ex_fit.1) ?_
 rintro rs M8 hM8 rfl
 refine VCode.st cxOK ?_
 refine VFn.mk _ (hFit (hc.le hM8) (v := (610, 700)) (z := true) (by decide +kernel) ex_fit.2) ?_
 rintro rs M9 hM9 rfl
 refine VCode.st cxOK ?_
 refine VFn.mk _ (hFit2 (hc.le (hM8.trans hM9))) ?_
 rintro rs M10 hM10 rfl
 refine VCode.st cxOK ?_
 have n10 := hM8.trans (hM9.trans hM10)
 refine VFz.mk fun z2 Bz2 M11 hM11 hz2 => ?_
 have hI2 : IntsV M11 z2 [1, 1] := IntsV.of hz2 (by decide)
 obtain ⟨a5, k5, rfl, _⟩ := hI2.get
 have n11 := n10.trans hM11
 refine VFn.mk _ (hCut2 (hc.le n11) (hr.le n11) hI2) ?_
 rintro rs M12 hM12 rfl
 have n12 := n11.trans hM12
 refine VCode.st cxOK ?_
 refine VFn.mk _ (hConN (hc.le n12) (hr.le n12)) ?_
 rintro rs M13 hM13 rfl
 have n13 := n12.trans hM13
 refine VCode.st cxOK ?_
 repeat (first | refine VIf.tt ?_ | refine VIf.ff ?_)
 refine VCode.of_vc cxOK ?_
 repeat (first | refine VIf.tt ?_ | refine VIf.ff ?_)
 refine VFz.mk fun z3 Bz3 M14 hM14 hz3 => ?_
 have hI3 : IntsV M14 z3 [1] := IntsV.of hz3 (by decide)
 obtain ⟨a6, k6, rfl, _⟩ := hI3.get
 have n14 := n13.trans hM14
 refine VFn.p (SameInts15_fn _ _ [1] [1] M14 (hu1.le n14) hI3) ?_
 repeat (first | refine VIf.tt ?_ | refine VIf.ff ?_)
 refine VFz.mk fun z4 Bz4 M15 hM15 hz4 => ?_
 have hP4 : Pts M15 z4 ex0 := hz4
 obtain ⟨a7, k7, rfl⟩ := hP4.shape
 repeat (first | refine VIf.tt ?_ | refine VIf.ff ?_)
 refine VFz.mk fun z5 Bz5 M16 hM16 hz5 => ?_
 have hr5 : RegV M16 z5 [ex0] := RegV.of1 hz5 (hP4.le hM16) (valid_64 (by decide +kernel))
 obtain ⟨a8, k8, rfl⟩ := hr5.shape
 have n16 := n14.trans (hM15.trans hM16)
 refine VFn.p (Same07_fn _ _ [ex0] [ex0] M16 (hu2.le n16) hr5) ?_
 repeat (first | refine VIf.tt ?_ | refine VIf.ff ?_)
 refine VFn.p (Same07_fn _ _ exR exR M16 (hu3.le n16) (hr.le n16)) ?_
 repeat (first | refine VIf.tt ?_ | refine VIf.ff ?_)
 exact VFact.mk rfl trivial
end Go.Proofs.YtcdlplobniogpaaGreat
namespace Go.Proofs.YtcdlplobniogpaaGreat
open Go
theorem leftL_has {l : List (List Pt)} {A B C : Int} {x : Pt} (hV : ∀ p ∈ l, validB p = true) (hH : halfB A B C = true) (h : regB l x = true) (ho : ovr A B C x ≤ 0) : regB (leftL l A B C) x = true := by
 obtain ⟨p, hp, hx⟩ := regB_iff.1 h
 have hl := cut_in (hV p hp) (half_ne hH) hx ho
 refine regB_iff.2 ⟨arC (cutA p A B C), List.mem_flatMap.2 ⟨p, hp, ?_⟩, arC_has (cut_place (hV p hp) A B C) hl⟩
 unfold optL
 rw [if_neg (lin_ne hl)]
 exact List.mem_singleton.2 rfl
theorem one_valid {p : List Pt} (hV : validB p = true) : ∀ q ∈ [p], validB q = true := fun q hq => by rw [List.mem_singleton.1 hq]; exact hV
theorem regB_one {p : List Pt} {x : Pt} : regB [p] x = hasB p x := by simp [regB]
theorem regB_app {a b : List (List Pt)} {x : Pt} : regB (a ++ b) x = (regB a x || regB b x) := by simp [regB]
theorem outP_has {p : List Pt} {lo hi x : Pt} (hV : validB p = true) (h : hasB p x = true) (hlo : placeB lo = true) (hhi : placeB hi = true) (ho : x.1 < lo.1 ∨ hi.1 < x.1 ∨ x.2 < lo.2 ∨ hi.2 < x.2) : regB (outP lo hi p) x = true := by
 have b1 := place_box.1 hlo
 have b2 := place_box.1 hhi
 have hH := fun C hC => half_x C hC
 unfold outP
 simp only [regB_app, Bool.or_eq_true]
 have h1 : regB [p] x = true := by rw [regB_one]; exact h
 by_cases c1 : x.1 < lo.1
 ·exact .inl (leftL_has (one_valid hV) (hH _ (by omega)).1 h1 (by unfold ovr; omega))
 by_cases c2 : hi.1 < x.1
 ·exact .inr (.inl (leftL_has (one_valid hV) (hH _ (by omega)).2.1 h1 (by unfold ovr; omega)))
 have v1 := leftL_valid (one_valid hV) (-1) 0 (-lo.1)
 have m1 := leftL_has (one_valid hV) (hH (-lo.1) (by omega)).2.1 h1 (by unfold ovr; omega)
 have v2 : ∀ q ∈ midL p lo hi, validB q = true := leftL_valid v1 1 0 hi.1
 have m2 : regB (midL p lo hi) x = true := leftL_has v1 (hH hi.1 (by omega)).1 m1 (by unfold ovr; omega)
 by_cases c3 : x.2 < lo.2
 ·exact .inr (.inr (.inl (leftL_has v2 (hH _ (by omega)).2.2.1 m2 (by unfold ovr; omega))))
 ·exact .inr (.inr (.inr (leftL_has v2 (hH _ (by omega)).2.2.2 m2 (by unfold ovr; omega))))
theorem outR_valid {r : List (List Pt)} (hV : ∀ p ∈ r, validB p = true) (lo hi : Pt) : ∀ q ∈ r.flatMap (outP lo hi), validB q = true := fun q hq => by
 obtain ⟨p, hp, hq⟩ := List.mem_flatMap.1 hq
 exact outP_valid (hV p hp) _ _ q hq
theorem outR_has {r : List (List Pt)} {lo hi x : Pt} (hV : ∀ p ∈ r, validB p = true) (h : regB r x = true) (hlo : placeB lo = true) (hhi : placeB hi = true) (ho : x.1 < lo.1 ∨ hi.1 < x.1 ∨ x.2 < lo.2 ∨ hi.2 < x.2) : regB (withoutB r lo hi) x = true := by
 refine tidy_has (outR_valid hV lo hi) ?_
 obtain ⟨p, hp, hx⟩ := regB_iff.1 h
 obtain ⟨q, hq, hqx⟩ := regB_iff.1 (outP_has (hV p hp) hx hlo hhi ho)
 exact regB_iff.2 ⟨q, List.mem_flatMap.2 ⟨p, hp, hq⟩, hqx⟩
theorem out_has {p : List Pt} {lo hi x : Pt} (hV : validB p = true) (h : hasB p x = true) (hlo : placeB lo = true) (hhi : placeB hi = true) (ho : x.1 < lo.1 ∨ hi.1 < x.1 ∨ x.2 < lo.2 ∨ hi.2 < x.2) : regB (withoutB [p] lo hi) x = true :=
 outR_has (one_valid hV) (by rw [regB_one]; exact h) hlo hhi ho
end Go.Proofs.YtcdlplobniogpaaGreat
namespace Go.Proofs.YtcdlplobniogpaaGreat
open Go Go.V Go.RowKit
theorem meet_has {p q : List Pt} {x : Pt} (hp : validB p = true) (hq : validB q = true) (h1 : hasB p x = true) (h2 : hasB q x = true) : hasB (arC (sharA p q)) x = true ∧ 0 < (sharA p q).length := by
 have hl := shar_in hp hq h1 h2
 exact ⟨arC_has (shar_place hp) hl, ne_len (lin_ne hl)⟩
theorem out_of {c : ChartS} (hF : frameC c) {x : Pt} (h : ∀ i : Int, 0 ≤ i ∧ i < c.cs.length → meetsP (bLo c i) (bHi c i) x x = false) : x.1 < (bLo c 0).1 ∨ (bHi c (lastI c)).1 < x.1 ∨ x.2 < (bLo c 0).2 ∨ (bHi c (lastI c)).2 < x.2 := by
 have f := hF.1
 have e0 : bLo c 0 = (c.x, c.y) := by unfold bLo; simp
 have hw0 : 0 ≤ c.w := by omega
 have el : lastI c = (c.h - 1) * c.w + (c.w - 1) := by
  unfold lastI
  rw [← f.2.2.2.1, Int.sub_mul, Int.mul_comm c.h]; omega
 obtain ⟨d1, d2⟩ := decode (w := c.w) (y := c.h - 1) (x := c.w - 1) (by omega) (by omega) (by omega)
 have e1 : bHi c (lastI c) = (c.x + (c.w - 1) * c.sz + c.sz - 1, c.y + (c.h - 1) * c.sz + c.sz - 1) := by
  unfold bHi bLo
  rw [el, d1, d2]
 rw [e0, e1]
 refine Decidable.byContradiction fun hn => ?_
 simp only at hn
 have a1 := colC_le (fr := c.x) (p := x.1) (x := 0) (show 1 ≤ c.sz by omega) (by omega)
 have a2 := colC_le (fr := c.x) (p := x.1) (x := c.w - 1) (show 1 ≤ c.sz by omega) (by omega)
 have a3 := colC_le (fr := c.y) (p := x.2) (x := 0) (show 1 ≤ c.sz by omega) (by omega)
 have a4 := colC_le (fr := c.y) (p := x.2) (x := c.h - 1) (show 1 ≤ c.sz by omega) (by omega)
 rw [Int.zero_mul] at a1 a3
 have hx0 : 0 ≤ colC c.x c.sz x.1 := a1.1.1 (by omega)
 have hx1 : colC c.x c.sz x.1 ≤ c.w - 1 := a2.2.1 (by omega)
 have hy0 : 0 ≤ colC c.y c.sz x.2 := a3.1.1 (by omega)
 have hy1 : colC c.y c.sz x.2 ≤ c.h - 1 := a4.2.1 (by omega)
 obtain ⟨g1, g2⟩ := decode (w := c.w) hy0 hx0 (by omega)
 have k0 := Int.mul_nonneg hy0 hw0
 have k1 := Int.mul_le_mul_of_nonneg_right hy1 hw0
 have hi : 0 ≤ colC c.y c.sz x.2 * c.w + colC c.x c.sz x.1 ∧ colC c.y c.sz x.2 * c.w + colC c.x c.sz x.1 < c.cs.length := by
  have : lastI c = (c.cs.length : Int) - 1 := rfl
  omega
 have hs : sqIn c (colC c.y c.sz x.2 * c.w + colC c.x c.sz x.1) x := (sq_col hF hi.1).2 ⟨g2, g1⟩
 have hm := h _ hi
 have : meetsP (bLo c (colC c.y c.sz x.2 * c.w + colC c.x c.sz x.1)) (bHi c (colC c.y c.sz x.2 * c.w + colC c.x c.sz x.1)) x x = true := by
  rw [meetsP_iff]; unfold sqIn at hs; omega
 rw [this] at hm
 cases hm
theorem rect_aff {α β γ x0 x1 y0 y1 a b : Int} (ha : x0 ≤ a ∧ a ≤ x1) (hb : y0 ≤ b ∧ b ≤ y1) (h1 : 0 ≤ aff α β γ (x0, y0)) (h2 : 0 ≤ aff α β γ (x1, y0)) (h3 : 0 ≤ aff α β γ (x1, y1)) (h4 : 0 ≤ aff α β γ (x0, y1)) : 0 ≤ aff α β γ (a, b) := by
 unfold aff at *
 simp only at *
 rcases Int.le_total 0 α with hα | hα <;> rcases Int.le_total 0 β with hβ | hβ
 ·have := Int.mul_le_mul_of_nonneg_left ha.1 hα
  have := Int.mul_le_mul_of_nonneg_left hb.1 hβ
  omega
 ·have := Int.mul_le_mul_of_nonneg_left ha.1 hα
  have := Int.mul_le_mul_of_nonpos_left hβ hb.2
  omega
 ·have := Int.mul_le_mul_of_nonpos_left hα ha.2
  have := Int.mul_le_mul_of_nonneg_left hb.1 hβ
  omega
 ·have := Int.mul_le_mul_of_nonpos_left hα ha.2
  have := Int.mul_le_mul_of_nonpos_left hβ hb.2
  omega
theorem sq_has {c : ChartS} {i : Int} {x : Pt} (h : sqIn c i x) : hasB (sqC c i) x = true := by
 refine hl_lin (sqC_hl i) fun α β γ hall => ?_
 exact rect_aff h.1 h.2 (hall _ (by simp [sqL])) (hall _ (by simp [sqL])) (hall _ (by simp [sqL])) (hall _ (by simp [sqL]))
theorem fnd_sq {c : ChartS} {x : Pt} {k : Int} (h : fndP c x k) (hk : 0 ≤ k) : (0 ≤ k ∧ k < c.cs.length) ∧ sqIn c k x := by
 rcases h with ⟨rfl, _⟩ | ⟨h1, h2⟩
 ·omega
 ·refine ⟨h1, ?_⟩
  rw [meetsP_iff] at h2
  unfold sqIn; omega
theorem tou_has {c : ChartS} (hF : frameC c) {p : List Pt} (hV : validB p = true) {x : Pt} (hx : hasB p x = true) {k : Int} (hk : 0 ≤ k ∧ k < c.cs.length) (hs : sqIn c k x) : k ∈ touI c p ∧ hasB (pieC c p k) x = true := by
 have hb : (boxLo p).1 ≤ x.1 ∧ x.1 ≤ (boxHi p).1 ∧ (boxLo p).2 ≤ x.2 ∧ x.2 ≤ (boxHi p).2 := has_box hV (fun y hy => by
  have h := b8_has (len_one hV).1 y hy
  exact ⟨h.1, h.2.1, h.2.2.1, h.2.2.2.1⟩) hx
 obtain ⟨m1, m2⟩ := meet_has hV (sqC_valid hF hk) hx (sq_has hs)
 refine ⟨List.mem_filter.2 ⟨underC_mem.2 ⟨hk, ?_⟩, decide_eq_true m2⟩, m1⟩
 rw [meetsP_iff]; unfold sqIn at hs; omega
theorem echL_valid {c : ChartS} {h v : Pt} {cells : List Int} {r : List (List Pt)} (hV : ∀ p ∈ r, validB p = true) : ∀ q ∈ echL c h v cells r, validB q = true := fun q hq => by
 obtain ⟨p, hp, hq⟩ := List.mem_flatMap.1 hq
 exact echP_valid (hV p hp) q hq
theorem echOK_get {c : ChartS} {h v : Pt} {cells : List Int} {r : List (List Pt)} (hok : echOK c h v cells r = true) : sndB c h v = true ∧ regionB r = true ∧ (∀ p ∈ r, validB p = true) ∧ frameC c ∧ celP c cells cells.length := by
 unfold echOK at hok
 simp only [Bool.and_eq_true, decide_eq_true_eq] at hok
 obtain ⟨h1, h2, h3⟩ := hok
 refine ⟨h1, h2, ?_, ?_, h3⟩
 ·simp only [regionB, Bool.and_eq_true] at h2
  exact fun p hp => List.all_eq_true.1 h2.2 p hp
 ·simp only [sndB, Bool.and_eq_true] at h1
  exact validC_frame h1.1
theorem echL_few {c : ChartS} {h v : Pt} {cells : List Int} {r : List (List Pt)} (hc : c.cs.length ≤ 64) (hr : r.length ≤ 8) : (echL c h v cells r).length ≤ 4000 := by
 have h1 := flatMap_len (echP c h v cells) 96 (fun p => by
  unfold echP
  split
  ·simp
  ·rw [List.length_append, List.length_map]
   have e2 := List.length_filter_le (okI c h v cells) (touI c p)
   have e3 : (touI c p).length ≤ (underC c (boxLo p) (boxHi p)).length := List.length_filter_le _ _
   have e4 := underC_len c (boxLo p) (boxHi p)
   have e5 := tidy_len ([p].flatMap (outP (bLo c 0) (bHi c (lastI c))))
   unfold withoutB
   omega) r
 unfold echL
 omega
theorem echo_keeps {c : ChartS} {h v : Pt} {cells : List Int} {r : List (List Pt)} {x : Pt} {k : Int} (hok : echOK c h v cells r = true) (hx : regB r x = true) (hk : fndP c x k) :
  (k < 0 → regB (tidyB (echL c h v cells r)) x = true) ∧ (0 ≤ k → (0 ≤ k ∧ k < c.cs.length) ∧ ((fitI c h v k = true ∨ k ∈ cells) → regB (tidyB (echL c h v cells r)) x = true) ∧ (fitI c h v k = false → k ∈ conL c h v r)) := by
 obtain ⟨hs, hR, hV, hF, hcel⟩ := echOK_get hok
 obtain ⟨p, hp, hpx⟩ := regB_iff.1 hx
 have hn0 : 0 < c.cs.length := by
  have f := hF.1
  have := Int.mul_le_mul_of_nonneg_right (show 1 ≤ c.w by omega) (show 0 ≤ c.h by omega)
  omega
 have up : regB (echP c h v cells p) x = true → regB (tidyB (echL c h v cells r)) x = true := fun hh => by
  refine tidy_has (echL_valid hV) ?_
  obtain ⟨q, hq, hqx⟩ := regB_iff.1 hh
  exact regB_iff.2 ⟨q, List.mem_flatMap.2 ⟨p, hp, hq⟩, hqx⟩
 refine ⟨fun hneg => up ?_, fun hpos => ?_⟩
 ·have hno : ∀ i : Int, 0 ≤ i ∧ i < c.cs.length → meetsP (bLo c i) (bHi c i) x x = false := by
   rcases hk with ⟨_, h⟩ | ⟨h, _⟩
   ·exact h
   ·omega
  unfold echP
  split
  ·rw [regB_one]; exact hpx
  ·have ho := out_has (hV p hp) hpx (sq_bd hF (i := 0) (by omega)).2.1 (sq_bd hF (i := lastI c) (by unfold lastI; omega)).2.2 (out_of hF hno)
   rw [regB_app, ho, Bool.or_true]
 ·obtain ⟨hb, hsq⟩ := fnd_sq hk hpos
  obtain ⟨t1, t2⟩ := tou_has hF (hV p hp) hpx hb hsq
  refine ⟨hb, fun hfit => up ?_, fun hfit => ?_⟩
  ·have hki : okI c h v cells k = true := by
    unfold okI
    rcases hfit with h | h
    ·rw [h]; rfl
    ·rw [decide_eq_true h, Bool.or_true]
   unfold echP
   split
   ·rw [regB_one]; exact hpx
   ·rw [regB_app, Bool.or_eq_true]
    exact .inl (regB_iff.2 ⟨_, List.mem_map.2 ⟨k, List.mem_filter.2 ⟨t1, hki⟩, rfl⟩, t2⟩)
  ·exact mem_conL.2 (mem_conA.2 ⟨hfit, List.mem_flatMap.2 ⟨p, hp, t1⟩⟩)
theorem echo_stays {c : ChartS} {h v : Pt} {cells : List Int} {r : List (List Pt)} (hg : ∀ i ∈ conL c h v r, i ∈ cells) : echL c h v cells r = r := by
 have e : ∀ p ∈ r, echP c h v cells p = [p] := fun p hp => by
  unfold echP
  rw [if_pos]
  refine List.all_eq_true.2 fun i hi => ?_
  unfold okI
  cases hf : fitI c h v i with
  | true => rfl
  | false =>
   rw [decide_eq_true (hg i (mem_conL.2 (mem_conA.2 ⟨hf, List.mem_flatMap.2 ⟨p, hp, hi⟩⟩)))]; rfl
 unfold echL
 have : ∀ l : List (List Pt), (∀ p ∈ l, echP c h v cells p = [p]) → l.flatMap (echP c h v cells) = l := by
  intro l
  induction l with
  | nil => intro _; rfl
  | cons p l ih =>
   intro hl
   rw [List.flatMap_cons, hl p List.mem_cons_self, ih fun q hq => hl q (List.mem_cons_of_mem _ hq)]; rfl
 exact this r e
theorem fit_wider {c : ChartS} {h v h' v' : Pt} {i : Int} (h1 : h'.1 ≤ h.1 ∧ h.2 ≤ h'.2) (h2 : v'.1 ≤ v.1 ∧ v.2 ≤ v'.2) (hf : fitI c h v i = true) : fitI c h' v' i = true := by
 unfold fitI fitC at *
 generalize gce c.cs i.toNat = x at *
 simp only [Bool.or_eq_true, Bool.and_eq_true, decide_eq_true_eq] at *
 exact hf.imp id fun hf => by omega
theorem con_wider {c : ChartS} {h v h' v' : Pt} {r : List (List Pt)} {i : Int} (h1 : h'.1 ≤ h.1 ∧ h.2 ≤ h'.2) (h2 : v'.1 ≤ v.1 ∧ v.2 ≤ v'.2) (hi : i ∈ conL c h' v' r) : i ∈ conL c h v r := by
 obtain ⟨a, b⟩ := mem_conA.1 (mem_conL.1 hi)
 refine mem_conL.2 (mem_conA.2 ⟨?_, b⟩)
 cases hf : fitI c h v i with
 | false => rfl
 | true => rw [fit_wider h1 h2 hf] at a; cases a
theorem con_part {c : ChartS} {h v : Pt} {r : List (List Pt)} {i : Int} (k : Nat) (hi : i ∈ conL c h v (r.take k)) : i ∈ conL c h v r := by
 obtain ⟨a, b⟩ := mem_conA.1 (mem_conL.1 hi)
 obtain ⟨p, hp, hb⟩ := List.mem_flatMap.1 b
 exact mem_conL.2 (mem_conA.2 ⟨a, List.mem_flatMap.2 ⟨p, List.mem_of_mem_take hp, hb⟩⟩)
theorem fit_shift (c : ChartS) (h v : Pt) (n i : Int) : fitI c (h.1 + n, h.2 + n) (v.1 + n, v.2 + n) i = fitI c h v i := by
 unfold fitI fitC
 generalize gce c.cs i.toNat = x
 congr 1; congr 1 <;> exact decide_eq_decide.2 (by simp only; omega)
theorem con_shift (c : ChartS) (h v : Pt) (n : Int) (r : List (List Pt)) : conL c (h.1 + n, h.2 + n) (v.1 + n, v.2 + n) r = conL c h v r := by
 unfold conL
 rw [show conA c (h.1 + n, h.2 + n) (v.1 + n, v.2 + n) = conA c h v from funext fun p => by unfold conA; simp only [fit_shift]]
theorem ech_shift (c : ChartS) (h v : Pt) (n : Int) (cells : List Int) (r : List (List Pt)) : echL c (h.1 + n, h.2 + n) (v.1 + n, v.2 + n) cells r = echL c h v cells r := by
 have e : okI c (h.1 + n, h.2 + n) (v.1 + n, v.2 + n) cells = okI c h v cells := funext fun i => by unfold okI; rw [fit_shift]
 unfold echL
 rw [show echP c (h.1 + n, h.2 + n) (v.1 + n, v.2 + n) cells = echP c h v cells from funext fun p => by unfold echP; rw [e]]
end Go.Proofs.YtcdlplobniogpaaGreat
namespace Go.Proofs.YtcdlplobniogpaaGreat
open Go Go.V Go.RowKit
section
variable {H : Type} {enc : TypeId × Value → H} {P : Program} {w : World} {sp : Nat → Bool} {held : Bool}
def memOf (w : World) : Mem := fun b => w.heap[b]?
theorem memOf_ok (w : World) : (memOf w).ok w := fun _ _ h => h
theorem memOf_cell {w : World} {a : Addr} {v : Value} (h : w.cell? a = some v) : (memOf w).cell a = some v := by
 unfold Mem.cell memOf
 unfold World.cell? at h
 cases hb : w.heap[a.block]? with
 | none => rw [hb] at h; cases h
 | some o => rw [hb] at h; cases o <;> first | exact h | cases h
def Opens {α : Type} (enc : TypeId × Value → H) (P : Program) (w : World) (sp : Nat → Bool) (held : Bool) (D : Mem → α → List Value → Prop) (t : TypeId) (k : Nat) : Prop :=
 ∀ fuel cs x, DataW.trod enc P w 0 sp held fuel t cs = some x → ∃ a, D (memOf w) a cs ∧ cs.length = k ∧ ∀ v ∈ cs, v.oneCell' = true
theorem wf_i64 {n : Int} (h : (Lit.int .i64 n).wf = true) : i64r n := by
 simp [Lit.wf, IntKind.min, IntKind.max, IntKind.signed, IntKind.bits] at h
 unfold i64r; omega
theorem opens_int {t : TypeId} (hu : P.underlying t = some (.int .i64)) : Opens enc P w sp held IntD t 1 := by
 intro fuel cs x h
 obtain ⟨n, rfl, _, hw⟩ := DataW.trod_int hu h
 exact ⟨n, ⟨rfl, wf_i64 hw⟩, rfl, by simp [Value.oneCell']⟩
theorem list_of {α : Type} {R : Nat → α → Prop} : ∀ (n : Nat), (∀ i, i < n → ∃ x, R i x) → ∃ l : List α, l.length = n ∧ ∀ (i : Nat) (x : α), l[i]? = some x → R i x
 | 0, _ => ⟨[], rfl, fun i x h => by simp at h⟩
 | n + 1, h => by
  obtain ⟨l, h1, h2⟩ := list_of n fun i hi => h i (by omega)
  obtain ⟨x, hx⟩ := h n (by omega)
  refine ⟨l ++ [x], by simp [h1], fun i y hy => ?_⟩
  by_cases e : i < l.length
  ·rw [List.getElem?_append_left e] at hy; exact h2 i y hy
  ·rw [List.getElem?_append_right (by omega)] at hy
   have hi := (List.getElem?_eq_some_iff.1 hy).1
   simp at hi
   have : i = n := by omega
   subst this
   rw [h1] at hy
   simp at hy
   subst hy; exact hx
theorem opens_slice {α : Type} {D : Mem → α → List Value → Prop} {t e : TypeId} {k : Nat} (hu : P.underlying t = some (.slice e)) (hk : P.cellsOf e = k) (_hk0 : 0 < k) (hD : Opens enc P w sp held D e k) :
  Opens enc P w sp held (fun M l r => ∃ v, r = [v] ∧ Arr D M k v l) t 1 := by
 intro fuel cs x h
 rcases DataW.trod_slice hu h with ⟨rfl, _⟩ | ⟨a, len, cap, elems, rest, n, _, rfl, _, _, hl, hm, hlen, hel, _⟩
 ·exact ⟨[], ⟨_, rfl, Arr.of [] (by simp) (SlAt.nil _ k) trivial⟩, rfl, by simp [Value.oneCell']⟩
 have h1 : ∀ i, i < len → ∃ q : α × List Value, D (memOf w) q.1 q.2 ∧ q.2.length = k ∧ (∀ v ∈ q.2, v.oneCell' = true) ∧ ∀ (j : Nat) (y : Value), q.2[j]? = some y → (memOf w).cell (a.add (i * k + j)) = some y := by
  intro i hi
  have h2 := hel i hi
  rw [List.getElem?_eq_getElem (by omega), Option.bind_eq_some_iff] at h2
  obtain ⟨r, hr, hy⟩ := h2
  obtain ⟨x, h3, h4, h5⟩ := hD _ _ _ hy
  obtain ⟨_, h6, h7⟩ := World.cells?_some hr
  refine ⟨(x, r), h3, h4, h5, fun j y hj => ?_⟩
  have hj' := (List.getElem?_eq_some_iff.1 hj).1
  simp only at hj'
  have h8 := h7 j (by omega)
  rw [hj, hk, Addr.add_add] at h8
  exact memOf_cell h8
 obtain ⟨l, hl1, hl2⟩ := list_of len h1
 have hrows : ∀ r ∈ l.map (·.2), r.length = k := fun r hr => by
  obtain ⟨q, hq, rfl⟩ := List.mem_map.1 hr
  obtain ⟨i, hi⟩ := List.getElem?_of_mem hq
  exact (hl2 i q hi).2.1
 refine ⟨l.map (·.1), ⟨_, rfl, l.map (·.2), by simp, hrows, ⟨some a, cap, ?_, ?_, hm, ?_, ?_, ?_⟩, ?_⟩, rfl, by simp [Value.oneCell']⟩
 ·simp [hl1]
 ·simp [hl1, hl]
 ·have : ∀ rows : List (List Value), (∀ r ∈ rows, r.length = k) → rows.flatten.length = rows.length * k := by
   intro rows
   induction rows with
   | nil => simp
   | cons r rows ih => intro h; rw [List.flatten_cons, List.length_append, ih (fun r hr => h r (List.mem_cons_of_mem _ hr)), h r (List.mem_cons_self), List.length_cons, Nat.add_mul]; omega
  rw [this _ hrows]; simp
 ·intro v hv
  obtain ⟨r, hr, hv⟩ := List.mem_flatten.1 hv
  obtain ⟨q, hq, rfl⟩ := List.mem_map.1 hr
  obtain ⟨i, hi⟩ := List.getElem?_of_mem hq
  exact (hl2 i q hi).2.2.1 v hv
 ·intro _
  refine ⟨a, rfl, fun j v hj => ?_⟩
  have key : ∀ (rows : List (List Value)) (b : Nat), (∀ r ∈ rows, r.length = k) → (∀ i r, rows[i]? = some r → ∀ (j : Nat) (y : Value), r[j]? = some y → (memOf w).cell (a.add ((b + i) * k + j)) = some y) → ∀ (j : Nat) (v : Value), rows.flatten[j]? = some v → (memOf w).cell (a.add (b * k + j)) = some v := by
   intro rows
   induction rows with
   | nil => intro b _ _ j v hj; simp at hj
   | cons r rows ih =>
    intro b hk1 hk2 j v hj
    have hr := hk1 r (List.mem_cons_self)
    rw [List.flatten_cons] at hj
    by_cases e : j < r.length
    ·rw [List.getElem?_append_left e] at hj
     exact hk2 0 r rfl j v hj
    ·rw [List.getElem?_append_right (by omega)] at hj
     have := ih (b + 1) (fun r hr => hk1 r (List.mem_cons_of_mem _ hr)) (fun i r hi => by rw [show b + 1 + i = b + (i + 1) by omega]; exact hk2 (i + 1) r (by simpa using hi)) _ v hj
     rw [show (b + 1) * k + (j - r.length) = b * k + j by rw [Nat.add_mul, hr]; omega] at this
     exact this
  have := key (l.map (·.2)) 0 hrows (fun i r hi j y hj => by
   rw [List.getElem?_map] at hi
   cases hq : l[i]? with
   | none => rw [hq] at hi; cases hi
   | some q =>
    rw [hq] at hi
    simp only [Option.map_some, Option.some.injEq] at hi
    subst hi
    rw [Nat.zero_add]
    exact (hl2 i q hq).2.2.2 j y hj) j v hj
  simpa using this
 ·intro i x r hx hr
  rw [List.getElem?_map] at hx hr
  cases hq : l[i]? with
  | none => rw [hq] at hx; cases hx
  | some q =>
   rw [hq] at hx hr
   simp only [Option.map_some, Option.some.injEq] at hx hr
   subst hx hr
   exact (hl2 i q hq).1
end
end Go.Proofs.YtcdlplobniogpaaGreat
namespace Go.Proofs.YtcdlplobniogpaaGreat
open Go Go.V Go.RowKit
section
variable {H : Type} {enc : TypeId × Value → H} {w : World} {sp : Nat → Bool} {held : Bool}
def PtD (_ : Mem) (p : Pt) (r : List Value) : Prop := r = [.int .i64 p.1, .int .i64 p.2] ∧ i64r p.1 ∧ i64r p.2
theorem field0 {P : Program} {t : TypeId} {fs : Array Field} {fuel : Nat} {cs : List Value} {x : DataW H × List MemPlace} (hu : P.underlying t = some (.struct fs)) (h : DataW.trod enc P w 0 sp held fuel t cs = some x) :
  cs.length = P.cellsOf t ∧ ∃ n, ∀ (i : Nat) (f : Field), fs[i]? = some f → ∃ y, DataW.trod enc P w 0 sp held n f.type ((cs.drop f.offset).take (P.cellsOf f.type)) = some y := by
 obtain ⟨xs, n, _, _, hl, hx, hf⟩ := DataW.trod_struct hu h
 refine ⟨hl, n, fun i f hi => ?_⟩
 have := hf i f hi
 have hlt := (Array.getElem?_eq_some_iff.1 hi).1
 rw [List.getElem?_eq_getElem (by omega)] at this
 exact ⟨_, this⟩
theorem len2 {α : Type} {l : List α} (h : l.length = 2) : ∃ a b, l = [a, b] := by
 match l, h with
 | [a, b], _ => exact ⟨a, b, rfl⟩
theorem opens3 : Opens enc Tryz.prog w sp held IntD 3 1 := opens_int Tryz.underlying3
theorem opens44 : Opens enc Tryz.prog w sp held PtD 44 2 := by
 intro fuel cs x h
 obtain ⟨hl, n, hf⟩ := field0 Tryz.underlying44 h
 have hk : Tryz.prog.cellsOf 44 = 2 := by kernel_rfl
 have hk3 : Tryz.prog.cellsOf 3 = 1 := by kernel_rfl
 rw [hk] at hl
 obtain ⟨a, b, rfl⟩ : ∃ a b, cs = [a, b] := len2 hl
 obtain ⟨y, hy⟩ := hf 0 _ rfl
 obtain ⟨z, hz⟩ := hf 1 _ rfl
 have hy : DataW.trod enc Tryz.prog w 0 sp held n 3 ((List.drop 0 [a, b]).take (Tryz.prog.cellsOf 3)) = some y := hy
 rw [hk3] at hy
 have hz : DataW.trod enc Tryz.prog w 0 sp held n 3 ((List.drop 1 [a, b]).take (Tryz.prog.cellsOf 3)) = some z := hz
 rw [hk3] at hz
 obtain ⟨n1, ⟨h1, g1⟩, _⟩ := opens3 _ _ _ hy
 obtain ⟨n2, ⟨h2, g2⟩, _⟩ := opens3 _ _ _ hz
 simp at h1 h2
 subst h1 h2
 exact ⟨(n1, n2), ⟨rfl, g1, g2⟩, rfl, by simp [Value.oneCell']⟩
theorem cellsP_rows (ps : List Pt) : (ps.map fun p => [Value.int .i64 p.1, Value.int .i64 p.2]).flatten = cellsP ps := by
 induction ps with
 | nil => rfl
 | cons p ps ih => simp only [List.map_cons, List.flatten_cons, ih]; rfl
theorem Pts.of_arr {M : Mem} {v : Value} {ps : List Pt} (h : Arr PtD M 2 v ps) : Pts M v ps ∧ i64P ps := by
 obtain ⟨rows, h1, h2, h3, h4⟩ := h
 have e : rows = ps.map fun p => [Value.int .i64 p.1, Value.int .i64 p.2] := by
  apply List.ext_getElem?
  intro i
  rw [List.getElem?_map]
  cases hp : ps[i]? with
  | none =>
   have := List.getElem?_eq_none_iff.1 hp
   simp only [Option.map_none]
   exact List.getElem?_eq_none (by omega)
  | some p =>
   have hi := (List.getElem?_eq_some_iff.1 hp).1
   have hr : rows[i]? = some (rows[i]'(by omega)) := List.getElem?_eq_getElem (by omega)
   rw [hr]
   simp only [Option.map_some, Option.some.injEq]
   exact (h4 i p _ hp hr).1
 rw [e, cellsP_rows] at h3
 refine ⟨h3, fun i hi => ?_⟩
 have hp := getD_get (0, 0) hi
 have hr : rows[i]? = some (rows[i]'(by omega)) := List.getElem?_eq_getElem (by omega)
 exact (h4 i _ _ hp hr).2
theorem opens64 : Opens enc Tryz.prog w sp held PolyD 64 1 := by
 intro fuel cs x h
 obtain ⟨l, ⟨v, rfl, ha⟩, h2, h3⟩ := opens_slice Tryz.underlying64 (k := 2) (by kernel_rfl) (by omega) opens44 fuel cs x h
 exact ⟨l, ⟨v, rfl, Pts.of_arr ha⟩, h2, h3⟩
theorem opens30 : Opens enc Tryz.prog w sp held (fun M l r => ∃ v, r = [v] ∧ IntsV M v l) 30 1 := opens_slice Tryz.underlying30 (by kernel_rfl) (by omega) opens3
theorem opens27 : Opens enc Tryz.prog w sp held (fun M l r => ∃ v, r = [v] ∧ RegV M v l) 27 1 := opens_slice Tryz.underlying27 (by kernel_rfl) (by omega) opens64
end
section
variable {H : Type} {enc : TypeId × Value → H} {P : Program}
theorem trodAll_stays (hl : laidOutB P = true) {W W' : World} (hb : Below W.heap.size W W') (sp : Nat → Bool) : ∀ {ts : List TypeId} {vs : List Value} {ds : List (DataW H)} {ps : List MemPlace}, (∀ t ∈ ts, P.readableRec t = true ∧ t < P.types.size) →
  DataW.TrodAll enc P W 0 (fun _ => true) true ts vs ds ps → (∀ x ∈ ps, x.block < W.heap.size) → (∀ x ∈ ps, sp x.block = true) → DataW.TrodAll enc P W' 0 sp true ts vs ds ps
 | [], _, _, _, _, h, _, _ => by
  obtain ⟨rfl, rfl, rfl⟩ := ChangeShapes.trodAll_nil h
  rfl
 | t :: ts, _, _, _, ht, h, hlt, hsp => by
  obtain ⟨v, vs, d, ds, p, q, rfl, rfl, rfl, h1, h2⟩ := ChangeShapes.trodAll_cons h
  refine ⟨p, q, ?_, trodAll_stays hl hb sp (fun t h => ht t (List.mem_cons_of_mem _ h)) h2 (fun x hx => hlt x (List.mem_append_right _ hx)) (fun x hx => hsp x (List.mem_append_right _ hx)), rfl⟩
  exact WideElems.Trod_stays hl (ht t List.mem_cons_self).1 (ht t List.mem_cons_self).2 h1 (fun x hx => hb.same (hlt x (List.mem_append_left _ hx))) (fun x hx => hsp x (List.mem_append_left _ hx))
theorem post_of_below {f : Func} {s : ChangeSpec} {apart fresh handsOn again : Bool} {W W' : World} {args : Array Value} {v : Value} {ds : List (DataW H)} {before : List MemPlace}
  (hl : laidOutB P = true) (hr : ∀ t ∈ f.params.toList, P.readableRec t = true ∧ t < P.types.size) (hvs : s.vars = [])
  (hW : DataW.Whole enc P f.params.toList s.vars apart W args.toList ds [] before) (hA : DataW.TrodAll enc P W 0 (fun _ => true) true f.params.toList args.toList ds before)
  (hres : ∀ (b : Nat) (sp : Nat → Bool) (hd : Bool), DataW.TrodAll enc P W' b sp hd f.resultTypes.toList (v.resultList f.resultTypes.size) (s.fn H (ds ++ [])).results [])
  (hargs : (s.fn H (ds ++ [])).args = ds) (hvars : (s.fn H (ds ++ [])).vars = []) (hb : Below W.heap.size W W')
  (hok : ∀ (j : Nat) (t : TypeId) (r : Value), f.resultTypes[j]? = some t → (v.resultList f.resultTypes.size)[j]? = some r → Value.okWide P W' .any 0 t r) :
  s.post enc P f apart fresh handsOn again W args v W' := by
 have hlt : ∀ p ∈ before, p.block < W.heap.size := fun p hp => by simpa using hW.lt p hp
 have hold : ∀ p ∈ before, (fun b => decide (b < W.heap.size)) p.block = true := fun p hp => by simpa using hlt p hp
 have st : ∀ sp : Nat → Bool, (∀ p ∈ before, sp p.block = true) → DataW.TrodAll enc P W' 0 sp true f.params.toList args.toList (s.fn H (ds ++ [])).args before := fun sp hsp => by
  rw [hargs]; exact trodAll_stays hl hb sp hr hA hlt hsp
 have sv : ∀ sp : Nat → Bool, DataW.TrodVars enc P W' sp s.vars (s.fn H (ds ++ [])).vars [] := fun sp => by rw [hvs, hvars]; rfl
 refine ⟨ds, [], before, [], before, [], hW, hres _ _ _, st _ hold, sv _, hb.frame _, fun _ => ?_⟩
 obtain ⟨_, _, _, _, _, hz, hn⟩ := hW
 refine ⟨hok, _, _, ([] ++ before) ++ [], ⟨[] ++ before, [], ChangeShapes.trodAll_append (st _ (fun _ _ => rfl)) (hres _ _ _), sv _, rfl, ?_, ?_⟩, ?_⟩
 ·intro b off hp
  have hp' : MemPlace.cell b off ∈ before := by simpa using hp
  rw [hb.frozen (show (⟨b, off, none⟩ : Addr).block < W.heap.size from hlt _ hp')]
  exact hz b off hp'
 ·intro ha
  simpa using hn ha
 ·intro p hp _
  simpa using hp
end
theorem laid : laidOutB Tryz.prog = true := by kernel_rfl
theorem own : ownKnob Tryz.prog.godebug = none := by kernel_rfl
end Go.Proofs.YtcdlplobniogpaaGreat
namespace Go.Proofs.YtcdlplobniogpaaGreat
open Go Go.V Go.RowKit
section
variable {H : Type} {enc : TypeId × Value → H} {P : Program} {w : World} {sp : Nat → Bool} {held : Bool}
abbrev RQ := Mem → List Value → Prop
def OpQ (enc : TypeId × Value → H) (P : Program) (w : World) (sp : Nat → Bool) (held : Bool) (Q : RQ) (t : TypeId) (k : Nat) : Prop :=
 ∀ fuel cs x, DataW.trod enc P w 0 sp held fuel t cs = some x → Q (memOf w) cs ∧ cs.length = k ∧ ∀ v ∈ cs, v.oneCell' = true
theorem OpQ.of {α : Type} {D : Mem → α → List Value → Prop} {t : TypeId} {k : Nat} (h : Opens enc P w sp held D t k) : OpQ enc P w sp held (fun M r => ∃ a, D M a r) t k := fun fuel cs x hx => by
 obtain ⟨a, h1, h2, h3⟩ := h fuel cs x hx
 exact ⟨⟨a, h1⟩, h2, h3⟩
structure FQ where
 t : TypeId
 k : Nat
 Q : RQ
def AllQ (M : Mem) : List FQ → List Value → Prop
 | [], cs => cs = []
 | q :: qs, cs => ∃ r cs', cs = r ++ cs' ∧ r.length = q.k ∧ q.Q M r ∧ AllQ M qs cs'
def sumQ : List FQ → Nat
 | [] => 0
 | q :: qs => q.k + sumQ qs
def offQ : Nat → List FQ → List (Nat × TypeId)
 | _, [] => []
 | o, q :: qs => (o, q.t) :: offQ (o + q.k) qs
theorem allQ_go {n : Nat} {full : List Value} : ∀ (qs : List FQ) (off : Nat) (fl : List Field), fl.map (fun f => (f.offset, f.type)) = offQ off qs → full.length = off + sumQ qs →
  (∀ f ∈ fl, ∃ y, DataW.trod enc P w 0 sp held n f.type ((full.drop f.offset).take (P.cellsOf f.type)) = some y) → (∀ q ∈ qs, P.cellsOf q.t = q.k ∧ OpQ enc P w sp held q.Q q.t q.k) → AllQ (memOf w) qs (full.drop off) ∧ ∀ v ∈ full.drop off, v.oneCell' = true
 | [], off, fl, _, hl, _, _ => by
  have : full.drop off = [] := List.drop_eq_nil_of_le (by simp [sumQ] at hl; omega)
  rw [this]; exact ⟨rfl, by simp⟩
 | q :: qs, off, fl, hf, hl, hy, hq => by
  match fl, hf with
  | f :: fl, hf =>
   simp only [List.map_cons, offQ, List.cons.injEq, Prod.mk.injEq] at hf
   obtain ⟨⟨h1, h2⟩, h3⟩ := hf
   obtain ⟨y, hy1⟩ := hy f List.mem_cons_self
   obtain ⟨g1, g2⟩ := hq q List.mem_cons_self
   rw [h1, h2, g1] at hy1
   obtain ⟨k1, k2, k3⟩ := g2 _ _ _ hy1
   obtain ⟨i1, i2⟩ := allQ_go qs (off + q.k) fl h3 (by simp only [sumQ] at hl; omega) (fun f hf => hy f (List.mem_cons_of_mem _ hf)) (fun q hq' => hq q (List.mem_cons_of_mem _ hq'))
   have e : full.drop off = (full.drop off).take q.k ++ full.drop (off + q.k) := by
    rw [← List.drop_drop]; exact (List.take_append_drop _ _).symm
   refine ⟨⟨_, _, e, k2, k1, i1⟩, fun v hv => ?_⟩
   rw [e] at hv
   rcases List.mem_append.1 hv with hv | hv
   ·exact k3 v hv
   ·exact i2 v hv
theorem opens_st {t : TypeId} {fs : Array Field} (qs : List FQ) (hu : P.underlying t = some (.struct fs)) (hf : fs.toList.map (fun f => (f.offset, f.type)) = offQ 0 qs) (hk : P.cellsOf t = sumQ qs) (hq : ∀ q ∈ qs, P.cellsOf q.t = q.k ∧ OpQ enc P w sp held q.Q q.t q.k) :
  OpQ enc P w sp held (fun M r => AllQ M qs r) t (sumQ qs) := fun fuel cs x hx => by
 obtain ⟨hl, n, h⟩ := field0 hu hx
 rw [hk] at hl
 obtain ⟨i1, i2⟩ := allQ_go (n := n) (full := cs) qs 0 fs.toList hf (by omega) (fun f hf => by
  obtain ⟨i, hi⟩ := List.getElem?_of_mem hf
  exact h i f (by simpa using hi)) hq
 exact ⟨by simpa using i1, hl, by simpa using i2⟩
theorem hq_nil : ∀ q ∈ ([] : List FQ), P.cellsOf q.t = q.k ∧ OpQ enc P w sp held q.Q q.t q.k := fun _ h => by cases h
theorem hq_cons {q : FQ} {qs : List FQ} (h1 : P.cellsOf q.t = q.k) (h2 : OpQ enc P w sp held q.Q q.t q.k) (h3 : ∀ q ∈ qs, P.cellsOf q.t = q.k ∧ OpQ enc P w sp held q.Q q.t q.k) : ∀ x ∈ q :: qs, P.cellsOf x.t = x.k ∧ OpQ enc P w sp held x.Q x.t x.k := fun x hx => by
 rcases List.mem_cons.1 hx with rfl | hx
 ·exact ⟨h1, h2⟩
 ·exact h3 x hx
end
theorem wf_u16 {n : Int} (h : (Lit.int .u16 n).wf = true) : 0 ≤ n ∧ n < 65536 := by
 simp [Lit.wf, IntKind.min, IntKind.max, IntKind.signed, IntKind.bits] at h; omega
theorem wf_u8 {n : Int} (h : (Lit.int .u8 n).wf = true) : 0 ≤ n ∧ n < 256 := by
 simp [Lit.wf, IntKind.min, IntKind.max, IntKind.signed, IntKind.bits] at h; omega
theorem wf_i16 {n : Int} (h : (Lit.int .i16 n).wf = true) : -32768 ≤ n ∧ n < 32768 := by
 simp [Lit.wf, IntKind.min, IntKind.max, IntKind.signed, IntKind.bits] at h; omega
end Go.Proofs.YtcdlplobniogpaaGreat
namespace Go.Proofs.YtcdlplobniogpaaGreat
open Go Go.V Go.RowKit
section
variable {H : Type} {enc : TypeId × Value → H} {w : World} {sp : Nat → Bool} {held : Bool}
end
end Go.Proofs.YtcdlplobniogpaaGreat
namespace Go.Proofs.YtcdlplobniogpaaGreat
open Go Go.V Go.RowKit
section
variable {H : Type} {enc : TypeId × Value → H} {w : World} {sp : Nat → Bool} {held : Bool}
def IQ5 : RQ := fun _ r => ∃ n, r = [.int .i64 n] ∧ i64r n
def SQ5 : RQ := fun _ r => ∃ a b, r = [.int .i64 a, .int .i64 b] ∧ i64r a ∧ i64r b
def BQ5 : RQ := fun _ r => ∃ b, r = [.bool b]
theorem opQ5_int : OpQ enc Tryz.prog w sp held IQ5 3 1 := fun f c x h => OpQ.of (D := IntD) opens3 f c x h
theorem opQ5_bool : OpQ enc Tryz.prog w sp held BQ5 4 1 := fun f c x h => by
 obtain ⟨b, rfl, _⟩ := DataW.trod_bool Tryz.underlying4 h
 exact ⟨⟨b, rfl⟩, rfl, by simp [Value.oneCell']⟩
theorem opQ5_span : OpQ enc Tryz.prog w sp held SQ5 29 2 := fun f c x h => by
 obtain ⟨⟨_, _, rfl, _, ⟨a, rfl, ha⟩, _, _, rfl, _, ⟨b, rfl, hb⟩, rfl⟩, h2⟩ := opens_st [⟨3, 1, IQ5⟩, ⟨3, 1, IQ5⟩] Tryz.underlying29 rfl (by kernel_rfl) (hq_cons (by kernel_rfl) opQ5_int (hq_cons (by kernel_rfl) opQ5_int hq_nil)) f c x h
 exact ⟨⟨a, b, rfl, ha, hb⟩, h2⟩
theorem opQ5_point : OpQ enc Tryz.prog w sp held SQ5 44 2 := fun f c x h => by
 obtain ⟨⟨_, _, rfl, _, ⟨a, rfl, ha⟩, _, _, rfl, _, ⟨b, rfl, hb⟩, rfl⟩, h2⟩ := opens_st [⟨3, 1, IQ5⟩, ⟨3, 1, IQ5⟩] Tryz.underlying44 rfl (by kernel_rfl) (hq_cons (by kernel_rfl) opQ5_int (hq_cons (by kernel_rfl) opQ5_int hq_nil)) f c x h
 exact ⟨⟨a, b, rfl, ha, hb⟩, h2⟩
theorem opens75 : Opens enc Tryz.prog w sp held CellD 75 4 := fun fu c x h => by
 obtain ⟨⟨_, _, rfl, _, ⟨a, b, rfl, ha, hb⟩, _, _, rfl, _, ⟨d, rfl, hd⟩, _, _, rfl, _, ⟨v, rfl⟩, rfl⟩, h3⟩ := opens_st [⟨29, 2, SQ5⟩, ⟨3, 1, IQ5⟩, ⟨4, 1, BQ5⟩] Tryz.underlying75 rfl (by kernel_rfl)
  (hq_cons (by kernel_rfl) opQ5_span (hq_cons (by kernel_rfl) opQ5_int (hq_cons (by kernel_rfl) opQ5_bool hq_nil))) fu c x h
 exact ⟨⟨a, b, d, v⟩, ⟨rfl, ha, hb, hd⟩, h3⟩
theorem opens128 : Opens enc Tryz.prog w sp held BeaD 128 3 := fun fu c x h => by
 obtain ⟨⟨_, _, rfl, _, ⟨a, rfl, ha⟩, _, _, rfl, _, ⟨b, d, rfl, hb, hd⟩, rfl⟩, h3⟩ := opens_st [⟨3, 1, IQ5⟩, ⟨44, 2, SQ5⟩] Tryz.underlying128 rfl (by kernel_rfl)
  (hq_cons (by kernel_rfl) opQ5_int (hq_cons (by kernel_rfl) opQ5_point hq_nil)) fu c x h
 exact ⟨⟨a, b, d⟩, ⟨rfl, ha, hb, hd⟩, h3⟩
theorem opens95 : Opens enc Tryz.prog w sp held LinD 95 2 := fun fu c x h => by
 obtain ⟨⟨_, _, rfl, _, ⟨a, rfl, ha⟩, _, _, rfl, _, ⟨l, v, rfl, h1, h2⟩, rfl⟩, h3⟩ := opens_st [⟨3, 1, IQ5⟩, ⟨64, 1, fun M r => ∃ l, PolyD M l r⟩] Tryz.underlying95 rfl (by kernel_rfl)
  (hq_cons (by kernel_rfl) opQ5_int (hq_cons (by kernel_rfl) (OpQ.of opens64) hq_nil)) fu c x h
 exact ⟨⟨a, l⟩, ⟨v, rfl, ha, h1, h2⟩, h3⟩
theorem opens22 : Opens enc Tryz.prog w sp held (fun M l r => ∃ v, r = [v] ∧ CelsV M v l) 22 1 := opens_slice Tryz.underlying22 (by kernel_rfl) (by omega) opens75
theorem opens23 : Opens enc Tryz.prog w sp held (fun M l r => ∃ v, r = [v] ∧ BeasV M v l) 23 1 := opens_slice Tryz.underlying23 (by kernel_rfl) (by omega) opens128
theorem opens24 : Opens enc Tryz.prog w sp held (fun M l r => ∃ v, r = [v] ∧ LinsV M v l) 24 1 := opens_slice Tryz.underlying24 (by kernel_rfl) (by omega) opens95
theorem opens26 : Opens enc Tryz.prog w sp held (fun (M : Mem) (c : ChartS) r => ∃ u : Value × Value × Value, r = [.int .i64 c.ver, .int .i64 c.x, .int .i64 c.y, .int .i64 c.w, .int .i64 c.h, .int .i64 c.sz, u.1, u.2.1, u.2.2] ∧ Cha M c u.1 u.2.1 u.2.2) 26 9 := fun fu c x h => by
 obtain ⟨⟨_, _, rfl, _, ⟨n1, rfl, g1⟩, _, _, rfl, _, ⟨n2, rfl, g2⟩, _, _, rfl, _, ⟨n3, rfl, g3⟩, _, _, rfl, _, ⟨n4, rfl, g4⟩, _, _, rfl, _, ⟨n5, rfl, g5⟩, _, _, rfl, _, ⟨n6, rfl, g6⟩, _, _, rfl, _, ⟨cs, u1, rfl, k1⟩, _, _, rfl, _, ⟨bs, u2, rfl, k2⟩, _, _, rfl, _, ⟨ls, u3, rfl, k3⟩, rfl⟩, h3⟩ :=
  opens_st [⟨3, 1, IQ5⟩, ⟨3, 1, IQ5⟩, ⟨3, 1, IQ5⟩, ⟨3, 1, IQ5⟩, ⟨3, 1, IQ5⟩, ⟨3, 1, IQ5⟩, ⟨22, 1, fun M r => ∃ l, ∃ v, r = [v] ∧ CelsV M v l⟩, ⟨23, 1, fun M r => ∃ l, ∃ v, r = [v] ∧ BeasV M v l⟩, ⟨24, 1, fun M r => ∃ l, ∃ v, r = [v] ∧ LinsV M v l⟩] Tryz.underlying26 rfl (by kernel_rfl)
  (hq_cons (by kernel_rfl) opQ5_int (hq_cons (by kernel_rfl) opQ5_int (hq_cons (by kernel_rfl) opQ5_int (hq_cons (by kernel_rfl) opQ5_int (hq_cons (by kernel_rfl) opQ5_int (hq_cons (by kernel_rfl) opQ5_int (hq_cons (by kernel_rfl) (OpQ.of opens22) (hq_cons (by kernel_rfl) (OpQ.of opens23) (hq_cons (by kernel_rfl) (OpQ.of opens24) hq_nil))))))))) fu c x h
 exact ⟨⟨n1, n2, n3, n4, n5, n6, cs, bs, ls⟩, ⟨(u1, u2, u3), rfl, ⟨g1, g2, g3, g4, g5, g6⟩, k1, k2, k3⟩, h3⟩
end
end Go.Proofs.YtcdlplobniogpaaGreat
namespace Go.Proofs.YtcdlplobniogpaaGreat
open Go Go.V Go.RowKit
section
variable {H : Type} {enc : TypeId × Value → H} {w : World} {sp : Nat → Bool} {held : Bool}
theorem opens29 : Opens enc Tryz.prog w sp held PtD 29 2 := by
 intro fuel cs x h
 obtain ⟨hl, n, hf⟩ := field0 Tryz.underlying29 h
 have hk : Tryz.prog.cellsOf 29 = 2 := by kernel_rfl
 have hk3 : Tryz.prog.cellsOf 3 = 1 := by kernel_rfl
 rw [hk] at hl
 obtain ⟨a, b, rfl⟩ : ∃ a b, cs = [a, b] := len2 hl
 obtain ⟨y, hy⟩ := hf 0 _ rfl
 obtain ⟨z, hz⟩ := hf 1 _ rfl
 have hy : DataW.trod enc Tryz.prog w 0 sp held n 3 ((List.drop 0 [a, b]).take (Tryz.prog.cellsOf 3)) = some y := hy
 rw [hk3] at hy
 have hz : DataW.trod enc Tryz.prog w 0 sp held n 3 ((List.drop 1 [a, b]).take (Tryz.prog.cellsOf 3)) = some z := hz
 rw [hk3] at hz
 obtain ⟨n1, ⟨h1, g1⟩, _⟩ := opens3 _ _ _ hy
 obtain ⟨n2, ⟨h2, g2⟩, _⟩ := opens3 _ _ _ hz
 simp at h1 h2
 subst h1 h2
 exact ⟨(n1, n2), ⟨rfl, g1, g2⟩, rfl, by simp [Value.oneCell']⟩
end
end Go.Proofs.YtcdlplobniogpaaGreat
namespace Go.Proofs.YtcdlplobniogpaaGreat
open Go Go.V Go.RowKit
def BysV (M : Mem) (v : Value) (bs : List Int) : Prop := SlAt M 1 v bs.length (bs.map (Value.int .u8)) ∧ ∀ b ∈ bs, 0 ≤ b ∧ b ≤ 255
theorem BysV.get {M : Mem} {v : Value} {bs : List Int} (h : BysV M v bs) : ∃ ad c, v = .slice ad bs.length c ∧ bs.length ≤ 9223372036854775807 ∧ ∀ M', M.le M' → ∀ i, i < bs.length → ∃ ad' b, ad = some ad' ∧ 0 ≤ b ∧ b ≤ 255 ∧ M'.cell (ad'.add (i * 1)) = some (.int .u8 b) := by
 obtain ⟨⟨ad, c, e, h1, h2, h3, h4, h5⟩, hr⟩ := h
 unfold maxLen at h2
 refine ⟨ad, c, e, by omega, fun M' hM i hi => ?_⟩
 obtain ⟨ad', rfl, hc⟩ := h5 (by omega)
 have hb := hr _ (List.getElem_mem hi)
 refine ⟨ad', bs[i], rfl, hb.1, hb.2, ?_⟩
 rw [Nat.mul_one]
 exact Mem.cell_le hM (hc i _ (by simp [hi]))
end Go.Proofs.YtcdlplobniogpaaGreat
namespace Go.Proofs.YtcdlplobniogpaaGreat.hullOrder
open Go Go.V Go.RowKit
end Go.Proofs.YtcdlplobniogpaaGreat.hullOrder
namespace Go.Proofs.YtcdlplobniogpaaGreat
open Go Go.V Go.RowKit
section
variable {H : Type} {enc : TypeId × Value → H} {w : World} {sp : Nat → Bool} {held : Bool}
def ByteD (_ : Mem) (n : Int) (r : List Value) : Prop := r = [.int .u8 n] ∧ 0 ≤ n ∧ n ≤ 255
theorem opens5 : Opens enc Tryz.prog w sp held ByteD 5 1 := by
 intro fuel cs x h
 obtain ⟨n, rfl, _, hw⟩ := DataW.trod_int Tryz.underlying5 h
 have : 0 ≤ n ∧ n ≤ 255 := by simpa [Lit.wf, IntKind.min, IntKind.max, IntKind.signed, IntKind.bits] using hw
 exact ⟨n, ⟨rfl, this⟩, rfl, by simp [Value.oneCell']⟩
theorem BysV.of_arr {M : Mem} {v : Value} {bs : List Int} (h : Arr ByteD M 1 v bs) : BysV M v bs := by
 obtain ⟨rows, h1, h2, h3, h4⟩ := h
 have e : rows = bs.map fun n => [Value.int .u8 n] := by
  apply List.ext_getElem?
  intro i
  rw [List.getElem?_map]
  cases hp : bs[i]? with
  | none =>
   have := List.getElem?_eq_none_iff.1 hp
   simp only [Option.map_none]
   exact List.getElem?_eq_none (by omega)
  | some p =>
   have hi := (List.getElem?_eq_some_iff.1 hp).1
   have hr : rows[i]? = some (rows[i]'(by omega)) := List.getElem?_eq_getElem (by omega)
   rw [hr]
   simp only [Option.map_some, Option.some.injEq]
   exact (h4 i p _ hp hr).1
 have e2 : rows.flatten = bs.map (Value.int .u8) := by
  rw [e]
  clear h1 h2 h3 h4 e
  induction bs with
  | nil => rfl
  | cons b bs ih => simp only [List.map_cons, List.flatten_cons, ih]; rfl
 rw [e2] at h3
 refine ⟨h3, fun b hb => ?_⟩
 obtain ⟨i, hi, rfl⟩ := List.getElem_of_mem hb
 have hr : rows[i]? = some (rows[i]'(by omega)) := List.getElem?_eq_getElem (by omega)
 exact (h4 i _ _ (List.getElem?_eq_getElem hi) hr).2
theorem opens52 : Opens enc Tryz.prog w sp held (fun M l r => ∃ v, r = [v] ∧ BysV M v l) 52 1 := by
 intro fuel cs x h
 obtain ⟨l, ⟨v, rfl, ha⟩, h2, h3⟩ := opens_slice Tryz.underlying52 (k := 1) (by kernel_rfl) (by omega) opens5 fuel cs x h
 exact ⟨l, ⟨v, rfl, BysV.of_arr ha⟩, h2, h3⟩
end
end Go.Proofs.YtcdlplobniogpaaGreat
namespace Go.Proofs.YtcdlplobniogpaaGreat
open Go Go.V Go.RowKit
def boxI (l : List (List Pt)) (lo hi : Pt) : Prop := (∀ p ∈ l, (lo.1 ≤ (boxLo p).1 ∧ lo.2 ≤ (boxLo p).2) ∧ (boxHi p).1 ≤ hi.1 ∧ (boxHi p).2 ≤ hi.2) ∧ (∃ p ∈ l, lo.1 = (boxLo p).1) ∧ (∃ p ∈ l, lo.2 = (boxLo p).2) ∧ (∃ p ∈ l, hi.1 = (boxHi p).1) ∧ ∃ p ∈ l, hi.2 = (boxHi p).2
theorem boxI_one (p : List Pt) (lo hi : Pt) (h1 : lo.1 = (boxLo p).1) (h2 : lo.2 = (boxLo p).2) (h3 : hi.1 = (boxHi p).1) (h4 : hi.2 = (boxHi p).2) : boxI [p] lo hi := by
 refine ⟨fun q hq => ?_, ⟨p, by simp, h1⟩, ⟨p, by simp, h2⟩, ⟨p, by simp, h3⟩, ⟨p, by simp, h4⟩⟩
 rw [List.mem_singleton.1 hq]; omega
theorem boxI_snoc {l : List (List Pt)} {lo hi : Pt} (h : boxI l lo hi) (p : List Pt) : boxI (l ++ [p]) (min lo.1 (boxLo p).1, min lo.2 (boxLo p).2) (max hi.1 (boxHi p).1, max hi.2 (boxHi p).2) := by
 obtain ⟨h0, ⟨p1, m1, e1⟩, ⟨p2, m2, e2⟩, ⟨p3, m3, e3⟩, p4, m4, e4⟩ := h
 refine ⟨fun q hq => ?_, ?_, ?_, ?_, ?_⟩
 ·rcases List.mem_append.1 hq with hq | hq
  ·have := h0 q hq
   simp only; omega
  ·rw [List.mem_singleton.1 hq]; simp only; omega
 ·by_cases c : lo.1 ≤ (boxLo p).1
  ·exact ⟨p1, List.mem_append_left _ m1, by simp only; omega⟩
  ·exact ⟨p, by simp, by simp only; omega⟩
 ·by_cases c : lo.2 ≤ (boxLo p).2
  ·exact ⟨p2, List.mem_append_left _ m2, by simp only; omega⟩
  ·exact ⟨p, by simp, by simp only; omega⟩
 ·by_cases c : (boxHi p).1 ≤ hi.1
  ·exact ⟨p3, List.mem_append_left _ m3, by simp only; omega⟩
  ·exact ⟨p, by simp, by simp only; omega⟩
 ·by_cases c : (boxHi p).2 ≤ hi.2
  ·exact ⟨p4, List.mem_append_left _ m4, by simp only; omega⟩
  ·exact ⟨p, by simp, by simp only; omega⟩
set_option maxRecDepth 20000 in
set_option maxHeartbeats 4000000 in
theorem regBox_fn (v : Value) (r : List (List Pt)) (M : Mem) (hr : RegV M v r) : V.Fn Tryz.prog 28 [v] M fun rs _ => if regionB r = true then (if r = [] then rs = [pt 0 0, pt 0 0, .bool false, .int .i64 0] else ∃ lo hi, rs = [ptv lo, ptv hi, .bool true, .int .i64 0] ∧ boxI r lo hi) else rs = [pt 0 0, pt 0 0, .bool false, .int .i64 1] := by
 have hVr := regValid_fn v r M hr
 obtain ⟨ra, rk, rfl, hrm, hrr⟩ := hr.get
 refine Fn.of_vcode cxOK Tryz.func28 rfl rfl rfl ?_
 refine VCode.st cxOK ?_
 refine VCode.st cxOK ?_
 refine VFn.mk _ hVr ?_
 rintro rs M1 hM1 rfl
 refine VIf.mk (fun e1 => ?_) (fun e1 => ?_)
 ·refine VDraw.go (by kernel_rfl) ?_
  refine VFact.mk rfl ?_
  refine VFact.mk ?_ trivial
  show (if _ then _ else _)
  rw [bn1 e1]; rfl
 have hR := bn2 e1
 have hr32 : r.length ≤ 32 := by
  simp only [regionB, Bool.and_eq_true, decide_eq_true_eq] at hR
  exact hR.1
 have hall : ∀ p ∈ r, validB p = true := by
  simp only [regionB, Bool.and_eq_true] at hR
  exact fun p hp => List.all_eq_true.1 hR.2 p hp
 refine VCode.seq ?_
 refine VCode.st cxOK ?_
 refine VCode.block ?_
 refine VCode.loopC (Nat × Pt × Pt × Mem) (fun (⟨k, lo, hi, M2⟩ : Nat × Pt × Pt × Mem) => ⟨[(0, .v (.slice ra r.length rk)), (2, .box 0 0), (3, .box 1 0), (16, .v (.slice ra r.length rk)), (17, .v (.int .i64 r.length)), (18, .v (.int .i64 k))], [(0, some (.box 44 [.v (.int .i64 lo.1), .v (.int .i64 lo.2)])), (1, some (.box 44 [.v (.int .i64 hi.1), .v (.int .i64 hi.2)]))], 2, M2, 61, ⟨fun _ => none, none, fun _ => none⟩⟩)
  (fun (⟨k, lo, hi, M2⟩ : Nat × Pt × Pt × Mem) => (M1.le M2 ∧ k ≤ r.length) ∧ if k = 0 then lo = (0, 0) ∧ hi = (0, 0) else boxI (r.take k) lo hi) (fun (⟨k, _, _, _⟩ : Nat × Pt × Pt × Mem) => r.length - k) (0, (0, 0), (0, 0), M1) ⟨⟨Mem.le_refl _, Nat.zero_le _⟩, by simp⟩ (Wk.mk' id (by repeat' constructor) (by repeat' constructor) (injOK_id _) rfl rfl rfl) ?_
 rintro ⟨k, lo, hi, M2⟩ ⟨⟨hM2, hk⟩, hbx⟩ m
 refine VCode.st cxOK ?_
 refine VCode.st cxOK ?_
 refine VIf.mk (fun hlt => ?_) (fun hge => ?_)
 ·have hlt := lt_of_dec hlt
  obtain ⟨a1, w1, f1, p1, q1, c1⟩ := hrr M2 (hM1.trans hM2) k hlt
  have hV : validB (gr r k) = true := val_gr hall hlt
  have p1 : Pts M2 w1 (gr r k) := p1
  have q1 : i64P (gr r k) := q1
  have hst : r.take (k + 1) = r.take k ++ [gr r k] := by rw [List.take_add_one]; simp [gr, hlt]
  generalize gr r k = p at *
  obtain ⟨wa, wk, rfl⟩ := p1.shape
  have hB := Box_is p1 q1 hV rfl rfl
  obtain ⟨lp, hlp⟩ : ∃ lp, lp = boxLo p := ⟨_, rfl⟩
  obtain ⟨hp, hhp⟩ : ∃ hp, hp = boxHi p := ⟨_, rfl⟩
  rw [← hlp, ← hhp] at hB
  refine VCode.seq (VCode.block ?_)
  refine VCode.st cxOK ?_
  refine VIdx.mk a1 k f1 rfl hlt ?_
  refine VRead.mk _ c1 ?_
  refine VCode.st cxOK ?_
  refine VFn.mk _ hB ?_
  rintro rs M3 hM3 rfl
  have fin : ∀ lo' hi' : Pt, (if k = 0 then lo' = lp ∧ hi' = hp else lo' = lo ∧ hi' = hi) → boxI (r.take (k + 1)) (min lo'.1 lp.1, min lo'.2 lp.2) (max hi'.1 hp.1, max hi'.2 hp.2) := fun lo' hi' hq => by
   rw [hst]
   by_cases k0 : k = 0
   ·rw [if_pos k0] at hq
    obtain ⟨rfl, rfl⟩ := hq
    subst k0
    rw [List.take_zero, List.nil_append]
    refine boxI_one p _ _ ?_ ?_ ?_ ?_ <;> (simp only [hlp, hhp]; omega)
   ·rw [if_neg k0] at hq hbx
    obtain ⟨rfl, rfl⟩ := hq
    rw [hlp, hhp]
    exact boxI_snoc hbx p
  refine VCode.frz [8, 9] ?_
  refine VFzB.mk fun z1 B1 M4 hM4 hB1 => ?_
  refine VFzB.mk fun z2 B2 M5 hM5 hB2 => ?_
  have hB1 : M4 B1 = some (.cells #[.int .i64 lp.1, .int .i64 lp.2] 44 (0, 0)) := hB1
  have hB2 : M5 B2 = some (.cells #[.int .i64 hp.1, .int .i64 hp.2] 44 (0, 0)) := hB2
  have hB1' := hM5 _ _ hB1
  refine VCode.st cxOK ?_
  refine VIf.mk (fun k0 => ?_) (fun k0 => ?_)
  ·have k0 : k = 0 := by have := beq_iff_eq.1 k0; omega
   have fin := fin lp hp (by rw [if_pos k0]; exact ⟨rfl, rfl⟩)
   refine VDraw.code ?_
   refine VCode.draws cxOK [] (by kernel_rfl) Mem
    (fun M4 => ⟨[(0, .v (.slice ra r.length rk)), (2, .box 0 0), (3, .box 1 0), (8, .v (.pointer (some ⟨B1, 0, none⟩))), (9, .v (.pointer (some ⟨B2, 0, none⟩))), (16, .v (.slice ra r.length rk)), (17, .v (.int .i64 r.length)), (18, .v (.int .i64 k))], [(0, some (.box 44 [.v (.int .i64 lp.1), .v (.int .i64 lp.2)])), (1, some (.box 44 [.v (.int .i64 hp.1), .v (.int .i64 hp.2)]))], 2, M4, 61, ⟨fun _ => none, none, fun _ => none⟩⟩)
    (fun M4 => M5.le M4) ?_ ?_
   ·refine VReads.mk [.int .i64 lp.1, .int .i64 lp.2] rfl (rdAt hB1') ?_
    refine VReads.mk [.int .i64 hp.1, .int .i64 hp.2] rfl (rdAt hB2) ?_
    have hc := Mem.le_refl M5
    refine VFact.mk hc ?_
    refine VFact.mk hc ?_
    exact ⟨M5, hc, (Wk.mk' id (by repeat' constructor) (by repeat' constructor) (injOK_id _) rfl rfl rfl)⟩
   rintro M6 m hM6
   refine VCode.of_vc cxOK ?_
   refine VRead.mk (.int .i64 lp.1) (cellAt (hM6 _ _ hB1') 0 rfl) ?_
   refine VRead.mk (.int .i64 lp.2) (cellAt (hM6 _ _ hB1') 1 rfl) ?_
   refine VRead.mk (.int .i64 hp.1) (cellAt (hM6 _ _ hB2) 0 rfl) ?_
   refine VRead.mk (.int .i64 hp.2) (cellAt (hM6 _ _ hB2) 1 rfl) ?_
   refine VCode.of_vc cxOK ?_
   refine VArith.ok (by first | omega | (simp only; omega)) (by first | omega | (simp only; omega)) ?_
   exact ⟨(k + 1, (min lp.1 lp.1, min lp.2 lp.2), (max hp.1 hp.1, max hp.2 hp.2), M6), ⟨⟨hM2.trans (hM3.trans (hM4.trans (hM5.trans hM6))), hlt⟩, by rw [if_neg (by omega)]; exact fin⟩, (by first | omega | (simp only; omega)), (Wk.mk' id (by repeat' constructor) (by repeat' constructor) (injOK_id _) rfl rfl rfl)⟩
  ·have k0 : k ≠ 0 := fun h => by rw [h] at k0; simp at k0
   have fin := fin lo hi (by rw [if_neg k0]; exact ⟨rfl, rfl⟩)
   have hM6 := Mem.le_refl M5
   refine VCode.of_vc cxOK ?_
   refine VRead.mk (.int .i64 lp.1) (cellAt (hM6 _ _ hB1') 0 rfl) ?_
   refine VRead.mk (.int .i64 lp.2) (cellAt (hM6 _ _ hB1') 1 rfl) ?_
   refine VRead.mk (.int .i64 hp.1) (cellAt (hM6 _ _ hB2) 0 rfl) ?_
   refine VRead.mk (.int .i64 hp.2) (cellAt (hM6 _ _ hB2) 1 rfl) ?_
   refine VCode.of_vc cxOK ?_
   refine VArith.ok (by first | omega | (simp only; omega)) (by first | omega | (simp only; omega)) ?_
   exact ⟨(k + 1, (min lo.1 lp.1, min lo.2 lp.2), (max hi.1 hp.1, max hi.2 hp.2), M5), ⟨⟨hM2.trans (hM3.trans (hM4.trans (hM5.trans hM6))), hlt⟩, by rw [if_neg (by omega)]; exact fin⟩, (by first | omega | (simp only; omega)), (Wk.mk' id (by repeat' constructor) (by repeat' constructor) (injOK_id _) rfl rfl rfl)⟩
 ·have : k = r.length := by have := ge_of_dec hge; omega
  subst this
  rw [List.take_length] at hbx
  refine VCode.of_vc cxOK ?_
  refine VDraw.go (by kernel_rfl) ?_
  refine VFact.mk rfl ?_
  refine VFact.mk rfl ?_
  refine VFact.mk ?_ trivial
  show (if _ then _ else _)
  rw [if_pos hR]
  by_cases hn : r = []
  ·subst hn
   rw [if_pos (show ([] : List (List Pt)).length = 0 from rfl)] at hbx
   rw [if_pos rfl]
   obtain ⟨rfl, rfl⟩ := hbx
   rfl
  ·rw [if_neg hn]
   have hl : r.length ≠ 0 := fun h => hn (List.length_eq_zero_iff.1 h)
   rw [if_neg hl] at hbx
   exact ⟨lo, hi, by rw [decide_eq_true (show (r.length : Int) > 0 by omega)]; rfl, hbx⟩
theorem left_box {l : List (List Pt)} (hV : ∀ p ∈ l, validB p = true) {m1 M1 m2 M2 : Int} (hb : boxR m1 M1 m2 M2 l) (A B C : Int) : boxR m1 M1 m2 M2 (leftL l A B C) := by
 intro q hq x hx
 obtain ⟨p, hp, hq⟩ := List.mem_flatMap.1 hq
 unfold optL at hq
 split at hq
 ·cases hq
 ·rw [List.mem_singleton.1 hq] at hx
  exact arC_box (cut_place (hV p hp) A B C) (cut_box (hb p hp)) x hx
theorem outP_box {p : List Pt} (hV : validB p = true) {m1 M1 m2 M2 : Int} (hb : ∀ y ∈ p, m1 ≤ y.1 ∧ y.1 ≤ M1 ∧ m2 ≤ y.2 ∧ y.2 ≤ M2) (lo hi : Pt) : boxR m1 M1 m2 M2 (outP lo hi p) := by
 have h1 : boxR m1 M1 m2 M2 [p] := fun q hq => by rw [List.mem_singleton.1 hq]; exact hb
 have v1 := leftL_valid (one_valid hV) (-1) 0 (-lo.1)
 have v2 : ∀ q ∈ midL p lo hi, validB q = true := leftL_valid v1 1 0 hi.1
 have h2 : boxR m1 M1 m2 M2 (midL p lo hi) := left_box v1 (left_box (one_valid hV) h1 _ _ _) _ _ _
 intro q hq
 unfold outP at hq
 rcases List.mem_append.1 hq with hq | hq
 ·exact left_box (one_valid hV) h1 _ _ _ q hq
 rcases List.mem_append.1 hq with hq | hq
 ·exact left_box (one_valid hV) h1 _ _ _ q hq
 rcases List.mem_append.1 hq with hq | hq
 ·exact left_box v2 h2 _ _ _ q hq
 ·exact left_box v2 h2 _ _ _ q hq
theorem echP_box {c : ChartS} {h v : Pt} {cells : List Int} {p : List Pt} (hV : validB p = true) (hF : frameC c) {m1 M1 m2 M2 : Int} (hb : ∀ y ∈ p, m1 ≤ y.1 ∧ y.1 ≤ M1 ∧ m2 ≤ y.2 ∧ y.2 ≤ M2) : boxR m1 M1 m2 M2 (echP c h v cells p) := by
 intro q hq
 unfold echP at hq
 split at hq
 ·rw [List.mem_singleton.1 hq]; exact hb
 ·rcases List.mem_append.1 hq with hq | hq
  ·obtain ⟨i, hi, rfl⟩ := List.mem_map.1 hq
   exact arC_box (shar_place hV) fun x hx => shar_box hV hb x (.inl hx)
  ·refine tidy_box (fun s hs => ?_) (fun s hs => ?_) q hq
   ·obtain ⟨p', hp', hs⟩ := List.mem_flatMap.1 hs
    exact outP_valid (one_valid hV p' hp') _ _ s hs
   ·obtain ⟨p', hp', hs⟩ := List.mem_flatMap.1 hs
    rw [List.mem_singleton.1 hp'] at hs
    exact outP_box hV hb _ _ s hs
theorem ech_box {c : ChartS} (hF : frameC c) {h v : Pt} {cells : List Int} {r : List (List Pt)} (hV : ∀ p ∈ r, validB p = true) {lo hi low high : Pt} (hb : boxI r lo hi) (hb2 : boxI (tidyB (echL c h v cells r)) low high) : lo.1 ≤ low.1 ∧ lo.2 ≤ low.2 ∧ high.1 ≤ hi.1 ∧ high.2 ≤ hi.2 := by
 have hall : ∀ p, validB p = true → ∀ x ∈ p, (boxLo p).1 ≤ x.1 ∧ x.1 ≤ (boxHi p).1 ∧ (boxLo p).2 ≤ x.2 ∧ x.2 ≤ (boxHi p).2 := fun p hp x hx => by
  have h := b8_has (len_one hp).1 x hx
  exact ⟨h.1, h.2.1, h.2.2.1, h.2.2.2.1⟩
 have hR : boxR lo.1 hi.1 lo.2 hi.2 (tidyB (echL c h v cells r)) := by
  refine tidy_box (echL_valid hV) ?_
  intro q hq x hx
  obtain ⟨p, hp, hq⟩ := List.mem_flatMap.1 hq
  have hbp := hb.1 p hp
  have inp : ∀ m1 M1 m2 M2, (∀ y ∈ p, m1 ≤ y.1 ∧ y.1 ≤ M1 ∧ m2 ≤ y.2 ∧ y.2 ≤ M2) → m1 ≤ x.1 ∧ x.1 ≤ M1 ∧ m2 ≤ x.2 ∧ x.2 ≤ M2 := fun m1 M1 m2 M2 hin => echP_box (hV p hp) hF hin q hq x hx
  have := inp _ _ _ _ (hall p (hV p hp))
  omega
 obtain ⟨_, ⟨p1, m1, e1⟩, ⟨p2, m2, e2⟩, ⟨p3, m3, e3⟩, p4, m4, e4⟩ := hb2
 have hv := tidy_valid (echL_valid (c := c) (h := h) (v := v) (cells := cells) hV)
 have q1 := (lo_spec fX (len_one (hv p1 m1)).1).2
 have q2 := (lo_spec fY (len_one (hv p2 m2)).1).2
 have q3 := (hi_spec fX (len_one (hv p3 m3)).1).2
 have q4 := (hi_spec fY (len_one (hv p4 m4)).1).2
 obtain ⟨y1, n1, f1⟩ := q1
 obtain ⟨y2, n2, f2⟩ := q2
 obtain ⟨y3, n3, f3⟩ := q3
 obtain ⟨y4, n4, f4⟩ := q4
 have g1 : (boxLo p1).1 = y1.1 := f1
 have g2 : (boxLo p2).2 = y2.2 := f2
 have g3 : (boxHi p3).1 = y3.1 := f3
 have g4 : (boxHi p4).2 = y4.2 := f4
 have := hR p1 m1 y1 n1
 have := hR p2 m2 y2 n2
 have := hR p3 m3 y3 n3
 have := hR p4 m4 y4 n4
 omega
end Go.Proofs.YtcdlplobniogpaaGreat
namespace Go.Proofs.YtcdlplobniogpaaGreat.echoWithin
open Go Go.V Go.RowKit
set_option maxRecDepth 20000 in
set_option maxHeartbeats 4000000 in
theorem law' (rv cv : Value) (c : ChartS) (u : Value × Value × Value) (r : List (List Pt)) (h v : Pt) (cells : List Int) (M : Mem) (hc : Cha M c u.1 u.2.1 u.2.2) (hr : RegV M rv r) (hI : IntsV M cv cells) :
  V.Fn Tryz.prog 8 [chV c u.1 u.2.1 u.2.2, rv, ptv h, ptv v, cv] M fun rs _ => rs = [.bool true] := by
 obtain ⟨a, b, d⟩ := u
 simp only at hc ⊢
 obtain ⟨⟨ad, ka, rfl⟩, ⟨bd, kb, rfl⟩, dd, kd, rfl⟩ := hc.shape
 obtain ⟨ra, rk, rfl, _, _⟩ := hr.get
 obtain ⟨ia, ik, rfl, _, _⟩ := hI.get
 refine Fn.of_vcode cxOK Tryz.func8 rfl rfl rfl ?_
 refine VCode.st cxOK ?_
 refine VCode.st cxOK ?_
 refine VFn.mk _ (head18_fn M) ?_
 rintro rs M1 hM1 rfl
 refine VCode.st cxOK ?_
 refine VFn.mk _ (usable18_fn c _ _ _ _ _ h v r cells M1 (hc.le hM1) (hr.le hM1) (hI.le hM1)) ?_
 rintro rs M2 hM2 ⟨b0, rfl, hb0⟩
 have m2 := hM1.trans hM2
 refine VIf.mk (fun e1 => ?_) (fun e1 => ?_)
 ·exact VFact.mk rfl trivial
 obtain ⟨⟨hc64, hr8⟩, hok⟩ := hb0 ((Bool.not_eq_false' _).mp e1)
 obtain ⟨hs, hR, hV, hF, hcel⟩ := echOK_get hok
 refine VCode.st cxOK ?_
 refine VFn.mk _ (CutE_fn c _ _ _ _ _ h v r cells M2 (hc.le m2) (hr.le m2) (hI.le m2)) ?_
 intro rs M3 hM3 hrs
 rw [if_pos hok, if_pos (echL_few hc64 hr8)] at hrs
 obtain ⟨x1, rfl, hx1⟩ := hrs
 obtain ⟨L, hL⟩ : ∃ L, L = tidyB (echL c h v cells r) := ⟨_, rfl⟩
 have hLR : regionB L = true := by rw [hL]; exact tidy_region (echL_valid hV)
 rw [← hL] at hx1
 obtain ⟨xa, xk, rfl⟩ := hx1.shape
 have m3 := m2.trans hM3
 refine VCode.st cxOK ?_
 repeat (first | refine VIf.tt ?_ | refine VIf.ff ?_)
 refine VIf.mk (fun e2 => ?_) (fun e2 => ?_)
 ·repeat (first | refine VIf.tt ?_ | refine VIf.ff ?_)
  exact VFact.mk rfl trivial
 have hLn : L ≠ [] := fun h => by rw [h] at e2; simp at e2
 have hrn : r ≠ [] := fun h => hLn (by rw [hL, h]; rfl)
 refine VCode.st cxOK ?_
 refine VFn.mk _ (regBox_fn _ r M3 (hr.le m3)) ?_
 intro rs M4 hM4 hrs
 rw [if_pos hR, if_neg hrn] at hrs
 obtain ⟨lo, hi, rfl, hbox⟩ := hrs
 refine VCode.st cxOK ?_
 refine VFn.mk _ (regBox_fn _ L M4 (hx1.le hM4)) ?_
 intro rs M5 hM5 hrs
 rw [if_pos hLR, if_neg hLn] at hrs
 obtain ⟨low, high, rfl, hbox2⟩ := hrs
 have fin := ech_box hF hV hbox (by rw [← hL]; exact hbox2)
 refine VCode.st cxOK ?_
 repeat (first | refine VIf.tt ?_ | refine VIf.ff ?_)
 refine VCode.of_vc cxOK ?_
 repeat' (first | refine VIf.tt ?_ | refine VIf.ff ?_ | refine VIf.mk (fun _ => ?_) (fun _ => ?_) | refine VFact.mk ?_ trivial)
 all_goals (simp only [decide_eq_true_eq, decide_eq_false_iff_not] at *)
 all_goals first | rfl | (exfalso; omega) | (congr 2; simp only [decide_eq_true_eq]; omega)
theorem law_fn (rv cv : Value) (c : ChartS) (u : Value × Value × Value) (r : List (List Pt)) (h1 h2 v1 v2 : Int) (cells : List Int) (M : Mem) (hc : Cha M c u.1 u.2.1 u.2.2) (hr : RegV M rv r) (_ : i64r h1) (_ : i64r h2) (_ : i64r v1) (_ : i64r v2) (hI : IntsV M cv cells) :
  V.Fn Tryz.prog 8 [chV c u.1 u.2.1 u.2.2, rv, .agg #[.int .i64 h1, .int .i64 h2], .agg #[.int .i64 v1, .int .i64 v2], cv] M fun rs _ => rs = [.bool true] :=
 law' rv cv c u r (h1, h2) (v1, v2) cells M hc hr hI
end Go.Proofs.YtcdlplobniogpaaGreat.echoWithin
namespace Go.Proofs.YtcdlplobniogpaaGreat.echoWithin
open Go Go.V Go.RowKit Go.ChangeShapes Go.WideShapes Go.ChangeAt
set_option linter.unusedVariables false
set_option maxRecDepth 100000 in
theorem lifted (os : Os) (started : os.Started) (H : Type) (enc : TypeId × Value → H) :
  ReturnsInHanded {} Tryz.checked os 8 .any (Rows.echoWithinSpec.pre6 enc Tryz.prog Tryz.f8 Rows.echoWithinRow.domain false) (Rows.echoWithinSpec.post enc Tryz.prog Tryz.f8 false true false false) := by
 refine returnsInHanded_of_change (C := Tryz.checked) own started (by kernel_rfl) Tryz.func8
  (ChangeSpec.witness6 (enc := enc) (C := Tryz.checked) false ⟨#[], #[.agg #[.int .i64 0, .int .i64 0, .int .i64 0, .int .i64 0, .int .i64 0, .int .i64 0, .slice none 0 0, .slice none 0 0, .slice none 0 0], .slice none 0 0, .agg #[.int .i64 0, .int .i64 0], .agg #[.int .i64 0, .int .i64 0], .slice none 0 0], []⟩ 8 (by kernel_rfl) (by kernel_rfl) (by kernel_rfl) (by kernel_rfl)) ?_
 intro W base args ds gs before hval0 hW hcnd _
 have hval : ∀ (j : Nat) t v, Tryz.f8.params[j]? = some t → args[j]? = some v → Value.okWide Tryz.prog W .any base t v := hval0
 have hW' := hW
 obtain ⟨p, q, hA0, hV, rfl, hfz, hnd⟩ := hW
 have hA : DataW.TrodAll enc Tryz.prog W 0 (fun _ => true) true Tryz.f8.params.toList args.toList ds p := hA0
 have hA1 := hA
 rw [Tryz.params8] at hA hval
 obtain ⟨v0, vs0, d0, ds0, p0, q0, hargs, rfl, rfl, h0, r0⟩ := trodAll_cons hA
 obtain ⟨v1, vs1, d1, ds1, p1, q1, rfl, rfl, rfl, h1, r1⟩ := trodAll_cons r0
 obtain ⟨v2, vs2, d2, ds2, p2, q2, rfl, rfl, rfl, h2, r2⟩ := trodAll_cons r1
 obtain ⟨v3, vs3, d3, ds3, p3, q3, rfl, rfl, rfl, h3, r3⟩ := trodAll_cons r2
 obtain ⟨v4, vs4, d4, ds4, p4, q4, rfl, rfl, rfl, h4, r4⟩ := trodAll_cons r3
 obtain ⟨rfl, rfl, rfl⟩ := trodAll_nil r4
 obtain rfl : args = #[v0, v1, v2, v3, v4] := by cases args; simp_all
 obtain ⟨rfl, rfl⟩ := trodVars_none hV
 obtain ⟨ag0, rfl, _⟩ := okWide_struct Tryz.underlying26 (hval 0 26 v0 rfl rfl)
 obtain ⟨fuel0, t0⟩ := h0
 obtain ⟨l0, ⟨u0, e0, g0⟩, _⟩ := opens26 _ _ _ t0
 obtain ⟨ag0⟩ := ag0
 have e0 : ag0 = _ := e0
 subst e0
 obtain ⟨a1, len1, cap1, rfl⟩ := okWide_slice Tryz.underlying27 (hval 1 27 v1 rfl rfl)
 obtain ⟨fuel1, t1⟩ := h1
 obtain ⟨l1, ⟨u1, e1, g1⟩, _⟩ := opens27 _ _ _ t1
 simp [Value.cells] at e1
 subst e1
 obtain ⟨ag2, rfl, _⟩ := okWide_struct Tryz.underlying29 (hval 2 29 v2 rfl rfl)
 obtain ⟨fuel2, t2⟩ := h2
 obtain ⟨l2, ⟨e2, k2, m2⟩, _⟩ := opens29 _ _ _ t2
 obtain ⟨ag2⟩ := ag2
 have e2 : ag2 = _ := e2
 subst e2
 obtain ⟨ag3, rfl, _⟩ := okWide_struct Tryz.underlying29 (hval 3 29 v3 rfl rfl)
 obtain ⟨fuel3, t3⟩ := h3
 obtain ⟨l3, ⟨e3, k3, m3⟩, _⟩ := opens29 _ _ _ t3
 obtain ⟨ag3⟩ := ag3
 have e3 : ag3 = _ := e3
 subst e3
 obtain ⟨a4, len4, cap4, rfl⟩ := okWide_slice Tryz.underlying30 (hval 4 30 v4 rfl rfl)
 obtain ⟨fuel4, t4⟩ := h4
 obtain ⟨l4, ⟨u4, e4, g4⟩, _⟩ := opens30 _ _ _ t4
 simp [Value.cells] at e4
 subst e4
 simp only [List.append_nil] at hW' hA1
 refine ((law_fn (.slice a1 len1 cap1) (.slice a4 len4 cap4) l0 u0 l1 l2.1 l2.2 l3.1 l3.2 l4 (memOf W) g0 g1 (k2) (m2) (k3) (m3) g4).2 W (memOf_ok W)).mono fun e W' ⟨rs, M', he, hb, _, _, _, hr⟩ => ?_
 subst he hr
 exact ⟨_, rfl, post_of_below laid (by rw [Tryz.params8]; exact of_decide_eq_true (by kernel_rfl)) rfl hW' hA1
  (fun _ _ _ => (trodAll_cons_mk (shut_bool Tryz.underlying4 _) trodAll_mk0)) rfl rfl hb (ok_one (by kernel_rfl) rfl (okWide_bool_mk Tryz.underlying4 _))⟩
theorem proved : Rows.EchoWithinSaid :=
 OpenClaim.holds_of_wide 8 Tryz.f8 rfl rfl rfl rfl rfl rfl rfl ⟨rfl, rfl, rfl, rfl, rfl⟩ rfl rfl rfl rfl rfl (by kernel_rfl) Tryz.func8 (by kernel_rfl)
  (of_decide_eq_true (by kernel_rfl)) (by unfold Func.isWrapper; first | (rw [if_pos (by decide +kernel)]; kernel_rfl) | (rw [if_neg (by decide +kernel)]; exact ⟨rfl, rfl⟩))
  (fun os started H enc _ => lifted os started H enc)
#print axioms proved
end Go.Proofs.YtcdlplobniogpaaGreat.echoWithin
