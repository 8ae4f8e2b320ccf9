/- Echoes: what an echo leaves of a polygon. -/
import Derived.Test.YtcdlplobniogpaaGreatHa11
import Derived.Sort.OwnSortedInts
set_option linter.unusedVariables false
set_option linter.unusedSimpArgs false
namespace Go.Proofs.YtcdlplobniogpaaGreat
open Go Go.V Go.RowKit
theorem echo_out {c : ChartS} (hF : frameC c) {p : List Pt} (hV : validB p = true) : outOK [p] (bLo c 0) (bHi c (lastI c)) = true := by
 have hc := hF.1.2.2.2
 have h1 : 1 ≤ c.cs.length := by
  have h2 := hF.1.2.2.1
  have := Int.mul_le_mul_of_nonneg_right hF.1.2.1.1 (show 0 ≤ c.h by omega)
  omega
 have b0 := sq_bd hF (i := 0) ⟨Int.le_refl _, by omega⟩
 have b1 := sq_bd hF (i := lastI c) ⟨by unfold lastI; omega, by unfold lastI; omega⟩
 have e0 : bLo c 0 = (c.x, c.y) := by unfold bLo; simp
 unfold outOK
 have hr : regionB [p] = true := by
  unfold regionB
  simp [hV]
 have hle : (bLo c 0).1 ≤ (bHi c (lastI c)).1 ∧ (bLo c 0).2 ≤ (bHi c (lastI c)).2 := by
  rw [e0]; unfold bHi bLo; simp only; omega
 rw [hr, b0.2.1, b1.2.2, decide_eq_true hle.1, decide_eq_true hle.2]; rfl
set_option maxRecDepth 20000 in
set_option maxHeartbeats 16000000 in
theorem take_call {c : ChartS} {a b d : Value} {h v : Pt} {B1 B2 B3 : Nat} {cells : List Int} {cv w rr : Value} {p : List Pt} {n i : Int} {k : Nat} {xs : List Value} {M : Mem} {K : SV → St → Prop}
  (hc : Cha M c a b d) (hs : sndB c h v = true) (hB : SndM M c a b d h v B1 B2 B3) (hI : IntsV M cv cells) (hp : Pts M w p) (hV : validB p = true) (hk : k = xs.length) (hl : xs.length ≤ 200000)
  (hK : ∀ M' ys, M.le M' → PlsV M' ys (echP c h v cells p) → K (.v (.tuple #[])) ⟨[(4, .v cv), (12, .box 0 0), (62, .v rr), (63, .v (.int .i64 n)), (64, .v (.int .i64 i))], [(0, some (.box 71 [.v (.int .i64 c.ver), .v (.int .i64 c.x), .v (.int .i64 c.y), .v (.int .i64 c.w), .v (.int .i64 c.h), .v (.int .i64 c.sz), .v a, .v b, .v d, .v (fitsV B1 B2 B3), .row 1])), (1, some (.row 64 1 (xs ++ ys).length (xs ++ ys)))], 2, M', 86, ⟨fun _ => none, none, fun _ => none⟩⟩) :
  VCall Tryz.prog 40 [.box 0 0, .v w, .v cv] ⟨[(4, .v cv), (12, .box 0 0), (62, .v rr), (63, .v (.int .i64 n)), (64, .v (.int .i64 i))], [(0, some (.box 71 [.v (.int .i64 c.ver), .v (.int .i64 c.x), .v (.int .i64 c.y), .v (.int .i64 c.w), .v (.int .i64 c.h), .v (.int .i64 c.sz), .v a, .v b, .v d, .v (fitsV B1 B2 B3), .row 1])), (1, some (.row 64 1 k xs))], 2, M, 86, ⟨fun _ => none, none, fun _ => none⟩⟩ K := by
 subst hk
 obtain ⟨⟨ad, ka, rfl⟩, ⟨bd, kb, rfl⟩, dd, kd, rfl⟩ := hc.shape
 obtain ⟨ca, ck, rfl, hIm, hIr⟩ := hI.get
 obtain ⟨wa, wk, rfl⟩ := hp.shape
 have hv : validC c = true := by simp only [sndB, Bool.and_eq_true] at hs; exact hs.1
 have hF := validC_frame hv
 refine VCall.post ?_
 refine VCall.inlineC cxOK Tryz.func40 rfl rfl rfl [(12, .box 0 0)] [(4, .slice ca cells.length ck), (62, rr), (63, .int .i64 n), (64, .int .i64 i)] (by repeat' constructor) (by repeat' constructor) (fun _ => rfl) (fun _ => rfl) ?_
 intro val
 show VCode _ _ ⟨[(0, .box 0 0), (1, .v (.slice wa p.length wk)), (2, .v (.slice ca cells.length ck))], [(2, some (.gh 12 (val 12) (.box 0 0))), (0, some (.box 71 [.v (.int .i64 c.ver), .v (.int .i64 c.x), .v (.int .i64 c.y), .v (.int .i64 c.w), .v (.int .i64 c.h), .v (.int .i64 c.sz), .v (.slice ad c.cs.length ka), .v (.slice bd c.bs.length kb), .v (.slice dd c.ls.length kd), .v (fitsV B1 B2 B3), .row 1])), (1, some (.row 64 1 xs.length xs))], 3, M, 104, ⟨fun _ => none, none, fun _ => none⟩⟩ _
 refine VCode.st cxOK ?_
 refine VCode.st cxOK ?_
 refine VDraw.code ?_
 refine VCode.drawsL cxOK [] [1, 3, 4, 9] [0, 2, 5, 6, 7, 8] (by kernel_rfl) Unit
  (fun _ => ⟨[(1, .v (.slice wa p.length wk)), (3, .box 3 0), (5, .box 4 0), (6, .box 5 0), (7, .v (.int .i64 xs.length))], [(0, some (.box 71 [.v (.int .i64 c.ver), .v (.int .i64 c.x), .v (.int .i64 c.y), .v (.int .i64 c.w), .v (.int .i64 c.h), .v (.int .i64 c.sz), .v (.slice ad c.cs.length ka), .v (.slice bd c.bs.length kb), .v (.slice dd c.ls.length kd), .v (fitsV B1 B2 B3), .row 1])), (1, some (.row 64 1 xs.length xs)), (2, some (.gh 12 (val 12) (.box 0 0))), (3, some (.box 66 [.box 0 0])), (4, some (.box 30 [.v (.slice ca cells.length ck)])), (5, some (.box 105 [.clo 65 [.box 0 0] []]))], 6, M, 104, ⟨fun _ => none, none, fun _ => none⟩⟩) (fun _ => True) ?_ ?_
 ·repeat' (first | refine VBoth.mk ?_ ?_ | refine VFact.mk (Mem.le_refl M) ?_)
  all_goals exact ⟨(), trivial, (Wk.mk' id (by repeat' constructor) (by repeat' constructor) (injOK_id _) rfl rfl rfl)⟩
 rintro _ m _
 refine VCode.st cxOK ?_
 refine VCode.seq ?_
 refine VCode.st cxOK ?_
 refine VOwn.own ?_
 refine VCall.wk (st1 := ⟨[(1, .v (.slice wa p.length wk)), (3, .box 3 0), (5, .box 4 0), (6, .box 5 0), (7, .v (.int .i64 xs.length)), (8, .box 6 0)], [(0, some (.box 71 [.v (.int .i64 c.ver), .v (.int .i64 c.x), .v (.int .i64 c.y), .v (.int .i64 c.w), .v (.int .i64 c.h), .v (.int .i64 c.sz), .v (.slice ad c.cs.length ka), .v (.slice bd c.bs.length kb), .v (.slice dd c.ls.length kd), .v (fitsV B1 B2 B3), .row 1])), (1, some (.row 64 1 xs.length xs)), (2, some (.gh 12 (val 12) (.box 0 0))), (3, some (.box 66 [.box 0 0])), (4, some (.box 30 [.v (.slice ca cells.length ck)])), (5, some (.box 105 [.clo 65 [.box 0 0] []])), (6, some (.box 4 [.v (.bool true)]))], 7, M, 104, ⟨m, none, _⟩⟩) (args1 := [.box 0 0, .v (.slice wa p.length wk)]) id rfl rfl (by repeat' constructor) (by repeat' constructor) (injOK_id _) rfl rfl rfl ?_
 refine touched_call rfl ?_
 refine VCode.block ?_
 refine VCode.name 0 900 rfl fun B hBn => ?_
 refine VCode.name 7 901 rfl fun Bp hpn => ?_
 refine VCode.name 8 902 rfl fun Bs hsn => ?_
 refine VCode.apart 0 7 (g := 9) (g' := 10) (by decide) rfl rfl rfl rfl fun ne1 => ?_
 refine VCode.apart 0 8 (g := 9) (g' := 11) (by decide) rfl rfl rfl rfl fun ne2 => ?_
 refine VCode.apart 7 8 (g := 10) (g' := 11) (by decide) rfl rfl rfl rfl fun ne3 => ?_
 obtain ⟨N, hN⟩ : ∃ N : Value → Mem, N = fun y e => if e = Bp then some (.cells #[(.slice wa p.length wk)] 64 (0, 0)) else if e = Bs then some (.cells #[.pointer (some ⟨B, 0, none⟩)] 66 (0, 0)) else if e = B then some (.cells (sndV c (.slice ad c.cs.length ka) (.slice bd c.bs.length kb) (.slice dd c.ls.length kd) (fitsV B1 B2 B3) y).toArray 71 (0, 0)) else none := ⟨_, rfl⟩
 have N1 : ∀ y, N y Bp = some (.cells #[(.slice wa p.length wk)] 64 (0, 0)) := fun y => by rw [hN]; simp
 have N2 : ∀ y, N y Bs = some (.cells #[.pointer (some ⟨B, 0, none⟩)] 66 (0, 0)) := fun y => by rw [hN]; simp [Ne.symm ne3]
 have N3 : ∀ y, N y B = some (.cells (sndV c (.slice ad c.cs.length ka) (.slice bd c.bs.length kb) (.slice dd c.ls.length kd) (fitsV B1 B2 B3) y).toArray 71 (0, 0)) := fun y => by rw [hN]; simp [ne1, ne2]
 have hit : IterG Tryz.prog 58 #[.pointer (some ⟨Bp, 0, none⟩), .pointer (some ⟨Bs, 0, none⟩)] M [Bp, Bs, B] N (touQ c p) (touT c p) := by
  refine touched_iter c (.slice ad c.cs.length ka) (.slice bd c.bs.length kb) (.slice dd c.ls.length kd) _ p M Bp Bs B ?_ ?_ ?_ hc hv hp hV
  ·intro e he
   simp only [List.mem_cons, List.not_mem_nil, or_false] at he
   rcases he with rfl | rfl | rfl <;> assumption
  ·intro y e he
   simp only [List.mem_cons, List.not_mem_nil, or_false] at he
   rcases he with rfl | rfl | rfl
   ·rw [N1]; exact Option.some_ne_none _
   ·rw [N2]; exact Option.some_ne_none _
   ·rw [N3]; exact Option.some_ne_none _
  ·intro M3 y _ hD
   refine ⟨?_, ?_, fitsV B1 B2 B3, y, ?_⟩
   ·rw [hD _ (by simp), N1]
   ·rw [hD _ (by simp), N2]
   ·rw [hD _ (by simp), N3]
 obtain ⟨ok, hok⟩ : ∃ ok : Int → Bool, ok = okI c h v cells := ⟨_, rfl⟩
 obtain ⟨L, hL⟩ : ∃ L, L = touI c p := ⟨_, rfl⟩
 refine VCode.rangeGB cxOK (gs := .clo 58 [] [.box 7 0, .box 8 0]) rfl ?_ hit (touQ_len c p) (touQ_mono c p) [(1, .v (.slice wa p.length wk)), (3, .box 3 0), (5, .box 4 0), (6, .box 5 0), (7, .v (.int .i64 xs.length)), (8, .box 6 0)] (by kernel_rfl) (by kernel_rfl) (by kernel_rfl) (List Value × Bool × Mem)
  (fun k (⟨ys, al, M'⟩ : List Value × Bool × Mem) => ⟨[(1, .v (.slice wa p.length wk)), (3, .box 3 0), (5, .box 4 0), (6, .box 5 0), (7, .v (.int .i64 xs.length)), (8, .box 6 0)], [(0, some (.box 71 [.v (.int .i64 c.ver), .v (.int .i64 c.x), .v (.int .i64 c.y), .v (.int .i64 c.w), .v (.int .i64 c.h), .v (.int .i64 c.sz), .v (.slice ad c.cs.length ka), .v (.slice bd c.bs.length kb), .v (.slice dd c.ls.length kd), .v (fitsV B1 B2 B3), .row 1])), (1, some (.row 64 1 (xs ++ ys).length (xs ++ ys))), (2, some (.gh 12 (val 12) (.box 0 0))), (3, some (.box 66 [.box 0 0])), (4, some (.box 30 [.v (.slice ca cells.length ck)])), (5, some (.box 105 [.clo 65 [.box 0 0] []])), (6, some (.box 4 [.v (.bool al)])), (7, some (.box 64 [.v (.slice wa p.length wk)])), (8, some (.box 66 [.box 0 0])), (9, some (.gh 900 (.pointer (some ⟨B, 0, none⟩)) (.box 0 0))), (10, some (.gh 901 (.pointer (some ⟨Bp, 0, none⟩)) (.box 7 0))), (11, some (.gh 902 (.pointer (some ⟨Bs, 0, none⟩)) (.box 8 0)))], 12, M', 104, ⟨fun _ => none, none, fun _ => none⟩⟩)
  (fun k (⟨ys, al, M'⟩ : List Value × Bool × Mem) => (M.le M' ∧ k ≤ L.length) ∧ PlsV M' ys (((L.take k).filter ok).map (pieC c p)) ∧ al = (L.take k).all ok) ([], true, M) ⟨⟨Mem.le_refl _, Nat.zero_le _⟩, PlsV.nil _, rfl⟩ ?_ ?_ ?_ ?_ ?_ ?_
 ·intro n₀ w' M₀ ρ W' hS
  have k1 := (hS.named (id := 7) (g := 10) (tag := 901) rfl rfl).1
  have k2 := (hS.named (id := 8) (g := 11) (tag := 902) rfl rfl).1
  simp [SV.den, At.den, k1, k2, blkOf]
 ·refine Wk.mk' id (by repeat' constructor) ?_ (injOK_id _) rfl rfl rfl
  repeat' constructor
  all_goals simp
 ·rintro k ⟨ys, al, M'⟩
  exact ⟨rfl, rfl⟩
 ·rintro k ⟨ys, al, M'⟩ ⟨⟨h1, _⟩, _⟩
  exact h1
 ·rintro k ⟨ys, al, M'⟩ _ n₀ w' M₀ ρ G W' hS
  have k0 := (hS.named (id := 0) (g := 9) (tag := 900) rfl rfl).2
  have k1 := (hS.named (id := 7) (g := 10) (tag := 901) rfl rfl).2
  have k2 := (hS.named (id := 8) (g := 11) (tag := 902) rfl rfl).2
  have k3 := (hS.named (id := 0) (g := 9) (tag := 900) rfl rfl).1
  refine ⟨slOf (ρ 1), fun e he o ho => ?_⟩
  simp only [List.mem_cons, List.not_mem_nil, or_false] at he
  rcases he with rfl | rfl | rfl
  ·rw [N1] at ho; cases ho; exact k1
  ·rw [N2] at ho; cases ho
   rw [k2]
   simp [SV.den, k3, blkOf]
  ·rw [N3] at ho; cases ho; exact k0
 ·rintro k ⟨ys, al, M'⟩ tag args ⟨⟨h1, h2⟩, h3, h4⟩ htag Mn hMn ⟨j, q, rfl, rfl, hj, hq⟩ m f
  obtain ⟨qa, qk, rfl⟩ := hq.shape
  have hjb := touI_bd hj
  have hjl : L[k]? = some j := by
   unfold touT at htag
   rw [List.getElem?_map, ← hL] at htag
   cases hLk : L[k]? with
   | none => rw [hLk] at htag; cases htag
   | some j' => rw [hLk] at htag; cases htag; rfl
  have hk1 : k + 1 ≤ L.length := (List.getElem?_eq_some_iff.1 hjl).1
  have htk : L.take (k + 1) = L.take k ++ [j] := by rw [List.take_add_one, hjl]; rfl
  have hpl : i64P (pieC c p j) := by
   have h0 := of_decide_eq_true (List.mem_filter.1 hj).2
   exact valid_64 (arC_valid (List.ne_nil_of_length_pos h0) (shar_place hV))
  have hyl : ys.length ≤ 4000 := by
   have hc4 := hF.1.2.2.2.2.1
   have e1 := h3.1
   rw [List.length_map] at e1
   have e2 := List.length_filter_le ok (L.take k)
   rw [List.length_take] at e2
   have e3 : L.length ≤ (underC c (boxLo p) (boxHi p)).length := by rw [hL]; exact List.length_filter_le _ _
   have e4 := underC_len c (boxLo p) (boxHi p)
   omega
  have h3' := h3.le hMn
  have ml := h1.trans hMn
  intro m'
  refine VFn.p (fits_fn c (.slice ad c.cs.length ka) (.slice bd c.bs.length kb) (.slice dd c.ls.length kd) h v j B1 B2 B3 Mn (hB.le ml) (hc.le ml).cs hs hjb) ?_
  have hok1 : ok j = (fitI c h v j || decide (j ∈ cells)) := by rw [hok]; rfl
  have hyes : ok j = true → PlsV Mn (ys ++ [.slice qa (pieC c p j).length qk]) (((L.take (k + 1)).filter ok).map (pieC c p)) ∧ al = (L.take (k + 1)).all ok := by
   intro e
   rw [htk, List.filter_append, List.map_append, List.all_append, ← h4]
   simp only [List.filter_cons, e, if_true, List.filter_nil, List.map_cons, List.map_nil, List.all_cons, List.all_nil, Bool.and_true, Bool.and_self]
   exact ⟨h3'.snoc hq hpl, trivial⟩
  have hno : ok j = false → PlsV Mn ys (((L.take (k + 1)).filter ok).map (pieC c p)) ∧ false = (L.take (k + 1)).all ok := by
   intro e
   rw [htk, List.filter_append, List.map_append, List.all_append, ← h4]
   simp only [List.filter_cons, e, List.filter_nil, List.map_nil, List.all_cons, List.all_nil, Bool.and_true, Bool.and_false, List.append_nil, Bool.false_eq_true, if_false]
   exact ⟨h3', trivial⟩
  refine VIf.mk (fun e1 => ?_) (fun e1 => ?_)
  ·obtain ⟨g1, g2⟩ := hyes (by rw [hok1, e1]; rfl)
   repeat (first | refine VIf.tt ?_ | refine VIf.ff ?_)
   refine VOwn.own ?_
   refine VCall.wk (st1 := ⟨[(1, .v (.slice wa p.length wk)), (3, .box 3 0), (5, .box 4 0), (6, .box 5 0), (7, .v (.int .i64 xs.length)), (8, .box 6 0)], [(0, some (.box 71 [.v (.int .i64 c.ver), .v (.int .i64 c.x), .v (.int .i64 c.y), .v (.int .i64 c.w), .v (.int .i64 c.h), .v (.int .i64 c.sz), .v (.slice ad c.cs.length ka), .v (.slice bd c.bs.length kb), .v (.slice dd c.ls.length kd), .v (fitsV B1 B2 B3), .row 1])), (1, some (.row 64 1 (xs ++ ys).length (xs ++ ys))), (2, some (.gh 12 (val 12) (.box 0 0))), (3, some (.box 66 [.box 0 0])), (4, some (.box 30 [.v (.slice ca cells.length ck)])), (5, some (.box 105 [.clo 65 [.box 0 0] []])), (6, some (.box 4 [.v (.bool al)])), (7, some (.box 64 [.v (.slice wa p.length wk)])), (8, some (.box 66 [.box 0 0])), (9, some (.gh 900 (.pointer (some ⟨B, 0, none⟩)) (.box 0 0))), (10, some (.gh 901 (.pointer (some ⟨Bp, 0, none⟩)) (.box 7 0))), (11, some (.gh 902 (.pointer (some ⟨Bs, 0, none⟩)) (.box 8 0)))], 12, Mn, 104, ⟨m', none, f⟩⟩) (args1 := [.box 0 0, .v (.slice qa (pieC c p j).length qk)]) id rfl rfl (by repeat' constructor) (by repeat' constructor) (injOK_id _) rfl rfl rfl ?_
   refine put_call0 rfl rfl (by rw [List.length_append]; omega) ?_
   refine ⟨(ys ++ [.slice qa (pieC c p j).length qk], al, Mn), ⟨⟨ml, hk1⟩, g1, g2⟩, ?_⟩
   refine Wk.mk' id (by repeat' constructor) ?_ (injOK_id _) rfl rfl rfl
   repeat' constructor
   all_goals simp [List.append_assoc]
  repeat (first | refine VIf.tt ?_ | refine VIf.ff ?_)
  refine VFn.mk _ (ContainsI_fn _ cells j Mn (hI.le ml)) ?_
  rintro rs M2 hM2 rfl
  repeat (first | refine VIf.tt ?_ | refine VIf.ff ?_)
  refine VIf.mk (fun e2 => ?_) (fun e2 => ?_)
  ·obtain ⟨g1, g2⟩ := hyes (by rw [hok1, e2, Bool.or_true])
   refine VOwn.own ?_
   refine VCall.wk (st1 := ⟨[(1, .v (.slice wa p.length wk)), (3, .box 3 0), (5, .box 4 0), (6, .box 5 0), (7, .v (.int .i64 xs.length)), (8, .box 6 0)], [(0, some (.box 71 [.v (.int .i64 c.ver), .v (.int .i64 c.x), .v (.int .i64 c.y), .v (.int .i64 c.w), .v (.int .i64 c.h), .v (.int .i64 c.sz), .v (.slice ad c.cs.length ka), .v (.slice bd c.bs.length kb), .v (.slice dd c.ls.length kd), .v (fitsV B1 B2 B3), .row 1])), (1, some (.row 64 1 (xs ++ ys).length (xs ++ ys))), (2, some (.gh 12 (val 12) (.box 0 0))), (3, some (.box 66 [.box 0 0])), (4, some (.box 30 [.v (.slice ca cells.length ck)])), (5, some (.box 105 [.clo 65 [.box 0 0] []])), (6, some (.box 4 [.v (.bool al)])), (7, some (.box 64 [.v (.slice wa p.length wk)])), (8, some (.box 66 [.box 0 0])), (9, some (.gh 900 (.pointer (some ⟨B, 0, none⟩)) (.box 0 0))), (10, some (.gh 901 (.pointer (some ⟨Bp, 0, none⟩)) (.box 7 0))), (11, some (.gh 902 (.pointer (some ⟨Bs, 0, none⟩)) (.box 8 0)))], 12, M2, 104, ⟨m', none, f⟩⟩) (args1 := [.box 0 0, .v (.slice qa (pieC c p j).length qk)]) id rfl rfl (by repeat' constructor) (by repeat' constructor) (injOK_id _) rfl rfl rfl ?_
   refine put_call0 rfl rfl (by rw [List.length_append]; omega) ?_
   refine ⟨(ys ++ [.slice qa (pieC c p j).length qk], al, M2), ⟨⟨ml.trans hM2, hk1⟩, g1.le hM2, g2⟩, ?_⟩
   refine Wk.mk' id (by repeat' constructor) ?_ (injOK_id _) rfl rfl rfl
   repeat' constructor
   all_goals simp [List.append_assoc]
  ·obtain ⟨g1, g2⟩ := hno (by rw [hok1, e1, e2]; rfl)
   exact ⟨(ys, false, M2), ⟨⟨ml.trans hM2, hk1⟩, g1.le hM2, g2⟩, (Wk.mk' id (by repeat' constructor) (by repeat' constructor) (injOK_id _) rfl rfl rfl)⟩
 ·rintro ⟨ys, al, M'⟩ m ⟨⟨h1, h2⟩, h3, h4⟩
  have elen : (touT c p).length = L.length := by rw [hL]; unfold touT; rw [List.length_map]
  rw [elen, List.take_length] at h3 h4
  have hyl : ys.length ≤ 4000 := by
   have hc4 := hF.1.2.2.2.2.1
   have e1 := h3.1
   rw [List.length_map] at e1
   have e2 := List.length_filter_le ok L
   have e3 : L.length ≤ (underC c (boxLo p) (boxHi p)).length := by rw [hL]; exact List.length_filter_le _ _
   have e4 := underC_len c (boxLo p) (boxHi p)
   omega
  refine VCode.seq ?_
  refine VCode.st cxOK ?_
  refine VCode.cond rfl (fun e => ?_) (fun e => ?_)
  ·subst e
   refine VCode.st cxOK ?_
   refine VDraw.code ?_
   refine VCode.drawsL cxOK [] [2, 3, 5, 7, 8] [0, 1, 4, 6, 9] (by kernel_rfl) Unit
    (fun _ => ⟨[(1, .v (.slice wa p.length wk)), (3, .box 3 0), (5, .box 4 0), (6, .box 5 0), (7, .v (.int .i64 xs.length)), (8, .box 6 0)], [(0, some (.box 71 [.v (.int .i64 c.ver), .v (.int .i64 c.x), .v (.int .i64 c.y), .v (.int .i64 c.w), .v (.int .i64 c.h), .v (.int .i64 c.sz), .v (.slice ad c.cs.length ka), .v (.slice bd c.bs.length kb), .v (.slice dd c.ls.length kd), .v (fitsV B1 B2 B3), .row 1])), (1, some (.row 64 1 xs.length xs)), (2, some (.gh 12 (val 12) (.box 0 0))), (3, some (.box 66 [.box 0 0])), (4, some (.box 30 [.v (.slice ca cells.length ck)])), (5, some (.box 105 [.clo 65 [.box 0 0] []])), (6, some (.box 4 [.v (.bool true)])), (7, some (.box 64 [.v (.slice wa p.length wk)])), (8, some (.box 66 [.box 0 0])), (9, some (.gh 900 (.pointer (some ⟨B, 0, none⟩)) (.box 0 0))), (10, some (.gh 901 (.pointer (some ⟨Bp, 0, none⟩)) (.box 7 0))), (11, some (.gh 902 (.pointer (some ⟨Bs, 0, none⟩)) (.box 8 0)))], 12, M', 104, ⟨fun _ => none, none, fun _ => none⟩⟩) (fun _ => True) ?_ ?_
   ·repeat' (first | refine VBoth.mk ?_ ?_ | refine VFact.mk (Mem.le_refl M') ?_ | refine VBnd.mk xs.length rfl (by rw [List.length_append]; omega) ?_)
    all_goals refine ⟨(), trivial, Wk.mk' (fun i => if i = 1 then 12 else i) (by repeat' constructor) ?_ (injOK_b rfl) rfl rfl rfl⟩
    all_goals repeat' constructor
    all_goals simp
   rintro _ m1 _
   refine VCode.st cxOK ?_
   refine VDraw.go (by kernel_rfl) ?_
   refine VFn.mk _ (Clone_fn _ p M' (hp.le h1) (valid_len hV).1 (by have := (valid_len hV).2; omega)) ?_
   rintro rs M3 hM3 ⟨u, rfl, hu⟩
   obtain ⟨qa, qk, rfl⟩ := hu.shape
   refine VOwn.own ?_
   refine VCall.wk (st1 := ⟨[(1, .v (.slice wa p.length wk)), (3, .box 3 0), (5, .box 4 0), (6, .box 5 0), (7, .v (.int .i64 xs.length)), (8, .box 6 0)], [(0, some (.box 71 [.v (.int .i64 c.ver), .v (.int .i64 c.x), .v (.int .i64 c.y), .v (.int .i64 c.w), .v (.int .i64 c.h), .v (.int .i64 c.sz), .v (.slice ad c.cs.length ka), .v (.slice bd c.bs.length kb), .v (.slice dd c.ls.length kd), .v (fitsV B1 B2 B3), .row 1])), (1, some (.row 64 1 xs.length xs)), (2, some (.gh 12 (val 12) (.box 0 0))), (3, some (.box 66 [.box 0 0])), (4, some (.box 30 [.v (.slice ca cells.length ck)])), (5, some (.box 105 [.clo 65 [.box 0 0] []])), (6, some (.box 4 [.v (.bool true)])), (7, some (.box 64 [.v (.slice wa p.length wk)])), (8, some (.box 66 [.box 0 0])), (9, some (.gh 900 (.pointer (some ⟨B, 0, none⟩)) (.box 0 0))), (10, some (.gh 901 (.pointer (some ⟨Bp, 0, none⟩)) (.box 7 0))), (11, some (.gh 902 (.pointer (some ⟨Bs, 0, none⟩)) (.box 8 0)))], 12, M3, 104, ⟨m1, none, _⟩⟩) (args1 := [.box 0 0, .v (.slice qa p.length qk)]) id rfl rfl (by repeat' constructor) (by repeat' constructor) (injOK_id _) rfl rfl rfl ?_
   refine put_call0 rfl rfl (by omega) ?_
   refine VCode.of_vc cxOK ?_
   repeat refine VFact.mk rfl ?_
   refine ⟨.v (.tuple #[]), _, ?_, hK M3 [.slice qa p.length qk] (h1.trans hM3) ?_⟩
   ·exact ⟨⟨id, rfl, rfl, by repeat' constructor, by repeat' constructor, injOK_id _⟩, rfl, rfl, rfl⟩
   ·unfold echP
    rw [← hok, ← hL, if_pos h4.symm]
    exact (PlsV.nil _).snoc hu (valid_64 hV)
  subst e
  have hlen1 : 1 ≤ c.cs.length := by
   have := Int.mul_le_mul_of_nonneg_right hF.1.2.1.1 (show 0 ≤ c.h by have := hF.1.2.2.1; omega)
   have := hF.1.2.2.2.1
   have := hF.1.2.2.1
   omega
  have hc4 : c.cs.length ≤ 4000 := by have := hF.1.2.2.2.2.1; omega
  refine VCode.of_vc cxOK ?_
  refine VCode.st cxOK ?_
  refine VFn.mk _ (Square_is (i := 0) (hc.le h1) hv ⟨Int.le_refl _, by omega⟩) ?_
  rintro rs M2 hM2 rfl
  refine VCode.ease ⟨[(1, .v (.slice wa p.length wk)), (3, .box 4 0), (6, .box 3 0), (11, .box 5 0)], [(0, some (.box 71 [.v (.int .i64 c.ver), .v (.int .i64 c.x), .v (.int .i64 c.y), .v (.int .i64 c.w), .v (.int .i64 c.h), .v (.int .i64 c.sz), .v (.slice ad c.cs.length ka), .v (.slice bd c.bs.length kb), .v (.slice dd c.ls.length kd), .v (fitsV B1 B2 B3), .row 1])), (1, some (.row 64 1 (xs ++ ys).length (xs ++ ys))), (2, some (.gh 12 (val 12) (.box 0 0))), (3, some (.box 105 [.clo 65 [.box 0 0] []])), (4, some (.box 66 [.box 0 0])), (5, some (.box 44 [.v (.int .i64 (bLo c 0).1), .v (.int .i64 (bLo c 0).2)]))], 6, M2, 104, ⟨fun _ => none, none, fun _ => none⟩⟩ (Wk.mk' (fun i => if i = 3 then 5 else if i = 4 then 3 else if i = 5 then 12 else i) (by repeat' constructor) (by repeat' constructor) (injOK_b rfl) rfl rfl rfl) fun m2 => ?_
  refine VCode.name 0 900 rfl fun E hE => ?_
  refine VCode.name 4 901 rfl fun F hFn => ?_
  refine VCode.nameV 902 (.row 1) (fun _ _ _ _ _ _ => by show 1 < 8; omega) fun y => ?_
  refine VCode.apart 0 4 (g := 6) (g' := 7) (by decide) rfl rfl rfl rfl fun ne4 => ?_
  refine VCode.slotV 3 7 rfl rfl ?_
  obtain ⟨MH, hMH⟩ : ∃ MH : Mem, MH = fun e => if e = E then some (.cells (sndV c (.slice ad c.cs.length ka) (.slice bd c.bs.length kb) (.slice dd c.ls.length kd) (fitsV B1 B2 B3) y).toArray 71 (0, 0)) else if e = F then some (.cells #[.pointer (some ⟨E, 0, none⟩)] 66 (0, 0)) else M2 e := ⟨_, rfl⟩
  have q1 : MH E = some (.cells (sndV c (.slice ad c.cs.length ka) (.slice bd c.bs.length kb) (.slice dd c.ls.length kd) (fitsV B1 B2 B3) y).toArray 71 (0, 0)) := by rw [hMH]; simp
  have q2 : MH F = some (.cells #[.pointer (some ⟨E, 0, none⟩)] 66 (0, 0)) := by rw [hMH]; simp [Ne.symm ne4]
  have q3 : ∀ e, e ≠ E → e ≠ F → MH e = M2 e := fun e h1 h2 => by rw [hMH]; simp [h1, h2]
  have hH : ∀ st : St, st.own 0 = some (.box 71 [.v (.int .i64 c.ver), .v (.int .i64 c.x), .v (.int .i64 c.y), .v (.int .i64 c.w), .v (.int .i64 c.h), .v (.int .i64 c.sz), .v (.slice ad c.cs.length ka), .v (.slice bd c.bs.length kb), .v (.slice dd c.ls.length kd), .v (fitsV B1 B2 B3), .row 1]) → st.own 4 = some (.box 66 [.box 0 0]) → st.own 6 = some (.gh 900 (.pointer (some ⟨E, 0, none⟩)) (.box 0 0)) → st.own 7 = some (.gh 901 (.pointer (some ⟨F, 0, none⟩)) (.box 4 0)) → st.own 8 = some (.gh 902 y (.row 1)) → M2.le st.M → Hd MH st := by
   intro st o0 o4 o6 o7 o8 hle
   refine ⟨fun n₀ w' M₀ ρ W' hS e o ho => ?_⟩
   have k0 := hS.named o0 o6
   have k4 := hS.named o4 o7
   have k8 := hS.gh o8
   by_cases h1 : e = E
   ·subst h1
    rw [q1] at ho; cases ho
    rw [k0.2]
    simp only [List.map_cons, List.map_nil, SV.den] at k8 ⊢
    rw [k8]; rfl
   ·by_cases h2 : e = F
    ·subst h2
     rw [q2] at ho; cases ho
     rw [k4.2]
     simp [SV.den, k0.1, blkOf]
    ·rw [q3 e h1 h2] at ho
     exact hS.mem e o (hle e o ho)
  refine VCode.st cxOK ?_
  refine VDraw.code ?_
  refine VCode.drawsH cxOK [0, 1, 2, 3, 4, 5, 6, 7, 8, 9, 10, 12, 13, 14, 15, 20] [11, 16, 17, 18, 19] MH (by kernel_rfl) (hH _ rfl rfl rfl rfl rfl (Mem.le_refl _)) (fun n₀ w' M₀ ρ W' hS e he => q3 e (fun h => by have := hS.held (id := 0) (g := 6) (tag := 900) (B := E) rfl rfl; omega) (fun h => by have := hS.held (id := 4) (g := 7) (tag := 901) (B := F) rfl rfl; omega)) Mem
   (fun M3 => ⟨[(1, .v (.slice wa p.length wk)), (6, .box 3 0), (11, .box 4 0), (15, .box 5 0)], [(0, some (.box 71 [.v (.int .i64 c.ver), .v (.int .i64 c.x), .v (.int .i64 c.y), .v (.int .i64 c.w), .v (.int .i64 c.h), .v (.int .i64 c.sz), .v (.slice ad c.cs.length ka), .v (.slice bd c.bs.length kb), .v (.slice dd c.ls.length kd), .v (fitsV B1 B2 B3), .row 1])), (1, some (.row 64 1 (xs ++ ys).length (xs ++ ys))), (2, some (.gh 12 (val 12) (.box 0 0))), (3, some (.box 105 [.clo 65 [.box 0 0] []])), (4, some (.box 44 [.v (.int .i64 (bLo c 0).1), .v (.int .i64 (bLo c 0).2)])), (5, some (.box 44 [.v (.int .i64 (bHi c (lastI c)).1), .v (.int .i64 (bHi c (lastI c)).2)]))], 6, M3, 104, ⟨fun _ => none, none, fun _ => none⟩⟩) (fun M3 => M2.le M3) ?_ ?_
  ·have hq := Square_is (i := lastI c) (hc.le (h1.trans hM2)) hv ⟨by unfold lastI; omega, by unfold lastI; omega⟩
   refine VRead.mk (.pointer (some ⟨E, 0, none⟩)) (cellAt q2 0 rfl) ?_
   refine VReads.mk [.int .i64 c.ver, .int .i64 c.x, .int .i64 c.y, .int .i64 c.w, .int .i64 c.h, .int .i64 c.sz, (.slice ad c.cs.length ka), (.slice bd c.bs.length kb), (.slice dd c.ls.length kd)] rfl (fun j v hj => cellAt q1 j (by
    have : (sndV c (.slice ad c.cs.length ka) (.slice bd c.bs.length kb) (.slice dd c.ls.length kd) (fitsV B1 B2 B3) y).toArray[j]? = (sndV c (.slice ad c.cs.length ka) (.slice bd c.bs.length kb) (.slice dd c.ls.length kd) (fitsV B1 B2 B3) y)[j]? := by simp
    rw [this]
    match j, hj with
    | 0, hj => exact hj
    | 1, hj => exact hj
    | 2, hj => exact hj
    | 3, hj => exact hj
    | 4, hj => exact hj
    | 5, hj => exact hj
    | 6, hj => exact hj
    | 7, hj => exact hj
    | 8, hj => exact hj
    | j + 9, hj => simp at hj)) ?_
   refine VRead.mk (.pointer (some ⟨E, 0, none⟩)) (cellAt q2 0 rfl) ?_
   refine VRead.mk (.slice ad c.cs.length ka) (cellAt q1 6 rfl) ?_
   refine VArith.ok (by first | omega | (simp only; omega)) (by first | omega | (simp only; omega)) ?_
   repeat' (first | refine VBoth.mk ?_ ?_ | refine VFact.mk (hH _ rfl rfl rfl rfl rfl (Mem.le_refl _)) ?_ | (refine VFn.mk _ hq ?_; rintro rs M3 hM3 rfl) | refine VFact.mk (hH _ rfl rfl rfl rfl rfl hM3) ?_)
   all_goals refine ⟨M3, hM3, ?_⟩
   all_goals first
    | (refine Wk.mk' (fun i => if i = 4 then 5 else if i = 5 then 10 else i) ?_ ?_ (injOK_b rfl) rfl rfl rfl; all_goals (repeat' constructor); done)
    | (refine Wk.mk' (fun i => if i = 4 then 5 else if i = 5 then 9 else i) ?_ ?_ (injOK_b rfl) rfl rfl rfl; all_goals (repeat' constructor); done)
  rintro M3 m3 hM3
  have n3 := h1.trans (hM2.trans hM3)
  have hRl := tidy_len ([p].flatMap (outP (bLo c 0) (bHi c (lastI c))))
  refine VCode.st cxOK ?_
  refine VFz.mk fun x Bx M4 hM4 hx => ?_
  have hr : RegV M4 x [p] := RegV.of1 hx (hp.le (n3.trans hM4)) (valid_64 hV)
  have ho := Out_fn x [p] (bLo c 0) (bHi c (lastI c)) M4 hr
  simp only [echo_out hF hV, if_true] at ho
  refine VFn.mk _ ho ?_
  rintro rs M5 hM5 ⟨u, rfl, hu⟩
  obtain ⟨R, hR⟩ : ∃ R, R = withoutB [p] (bLo c 0) (bHi c (lastI c)) := ⟨_, rfl⟩
  rw [← hR] at hu
  obtain ⟨PP, hPP⟩ : ∃ PP, PP = (L.filter ok).map (pieC c p) := ⟨_, rfl⟩
  have hRl : R.length ≤ 32 := by rw [hR]; exact hRl
  have n5 := n3.trans (hM4.trans hM5)
  have hPl := h3.1
  rw [← hPP] at h3 hPl
  have h3 := h3.le (hM2.trans (hM3.trans (hM4.trans hM5)))
  obtain ⟨ua, uk, rfl, hum, hur⟩ := hu.get
  refine VCode.st cxOK ?_
  refine VCode.block ?_
  refine VCode.loopC (Nat × List Value × Mem) (fun (⟨t, zs, M6⟩ : Nat × List Value × Mem) => ⟨[(6, .box 3 0), (94, .v (.slice ua R.length uk)), (95, .v (.int .i64 R.length)), (96, .v (.int .i64 t))], [(0, some (.box 71 [.v (.int .i64 c.ver), .v (.int .i64 c.x), .v (.int .i64 c.y), .v (.int .i64 c.w), .v (.int .i64 c.h), .v (.int .i64 c.sz), .v (.slice ad c.cs.length ka), .v (.slice bd c.bs.length kb), .v (.slice dd c.ls.length kd), .v (fitsV B1 B2 B3), .row 1])), (1, some (.row 64 1 (xs ++ zs).length (xs ++ zs))), (2, some (.gh 12 (val 12) (.box 0 0))), (3, some (.box 105 [.clo 65 [.box 0 0] []]))], 4, M6, 104, ⟨fun _ => none, none, fun _ => none⟩⟩)
   (fun (⟨t, zs, M6⟩ : Nat × List Value × Mem) => (M5.le M6 ∧ t ≤ R.length) ∧ PlsV M6 zs (PP ++ R.take t)) (fun (⟨t, _, _⟩ : Nat × List Value × Mem) => R.length - t) (0, ys, M5) ⟨⟨Mem.le_refl _, Nat.zero_le _⟩, by rw [List.take_zero, List.append_nil]; exact h3⟩ (Wk.mk' id (by repeat' constructor) (by repeat' constructor) (injOK_id _) rfl rfl rfl) ?_
  rintro ⟨t, zs, M6⟩ ⟨⟨g1, g2⟩, g3⟩ m6
  refine VCode.st cxOK ?_
  refine VCode.st cxOK ?_
  refine VIf.mk (fun hlt => ?_) (fun hge => ?_)
  rotate_left
  ·have : t = R.length := by have := ge_of_dec hge; omega
   subst this
   rw [List.take_length] at g3
   repeat refine VFact.mk rfl ?_
   refine ⟨.v (.tuple #[]), _, ?_, hK M6 zs (n5.trans g1) ?_⟩
   ·exact ⟨⟨id, rfl, rfl, by repeat' constructor, by repeat' constructor, injOK_id _⟩, rfl, rfl, rfl⟩
   ·unfold echP
    rw [← hok, ← hL, ← h4, if_neg Bool.false_ne_true, ← hPP, ← hR]
    exact g3
  have hlt := lt_of_dec hlt
  have g5 := g3.1
  rw [List.length_append, List.length_take] at g5
  obtain ⟨a1, w1, e1, p1, q1, c1⟩ := hur M6 g1 t hlt
  obtain ⟨ya, yk, rfl⟩ := p1.shape
  refine VCode.seq (VCode.block ?_)
  refine VCode.st cxOK ?_
  refine VIdx.mk a1 t e1 rfl hlt ?_
  refine VRead.mk _ c1 ?_
  refine VCode.of_vc cxOK ?_
  refine VOwn.own ?_
  refine VCall.wk (st1 := ⟨[(6, .box 3 0), (94, .v (.slice ua R.length uk)), (95, .v (.int .i64 R.length)), (96, .v (.int .i64 t))], [(0, some (.box 71 [.v (.int .i64 c.ver), .v (.int .i64 c.x), .v (.int .i64 c.y), .v (.int .i64 c.w), .v (.int .i64 c.h), .v (.int .i64 c.sz), .v (.slice ad c.cs.length ka), .v (.slice bd c.bs.length kb), .v (.slice dd c.ls.length kd), .v (fitsV B1 B2 B3), .row 1])), (1, some (.row 64 1 (xs ++ zs).length (xs ++ zs))), (2, some (.gh 12 (val 12) (.box 0 0))), (3, some (.box 105 [.clo 65 [.box 0 0] []]))], 4, M6, 104, ⟨m6, none, _⟩⟩) (args1 := [.box 0 0, .v (.slice ya (gr R t).length yk)]) id rfl rfl (by repeat' constructor) (by repeat' constructor) (injOK_id _) rfl rfl rfl ?_
  refine put_call1 rfl rfl (by rw [List.length_append]; omega) ?_
  refine VCode.of_vc cxOK ?_
  refine VArith.ok (by first | omega | (simp only; omega)) (by first | omega | (simp only; omega)) ?_
  refine ⟨(t + 1, zs ++ [.slice ya (gr R t).length yk], M6), ⟨⟨g1, hlt⟩, ?_⟩, (by first | omega | (simp only; omega)), ?_⟩
  ·have ht : R.take (t + 1) = R.take t ++ [gr R t] := by rw [List.take_add_one]; congr 1; unfold gr; simp [hlt]
   rw [ht, ← List.append_assoc]
   exact g3.snoc p1 q1
  ·refine Wk.mk' id (by repeat' constructor) ?_ (injOK_id _) rfl rfl rfl
   repeat' constructor
   all_goals simp [List.append_assoc]
end Go.Proofs.YtcdlplobniogpaaGreat
namespace Go.Proofs.YtcdlplobniogpaaGreat
open Go Go.V Go.RowKit
set_option maxRecDepth 20000 in
set_option maxHeartbeats 4000000 in
theorem newSounder_call {c : ChartS} {a b d r cv : Value} {h v : Pt} {M : Mem} {K : SV → St → Prop} (hc : Cha M c a b d)
  (hK1 : sndB c h v = true → ∀ M' B1 B2 B3, M.le M' → SndM M' c a b d h v B1 B2 B3 → K (.tup [.box 1 0, .v (.bool true)]) ⟨[(1, .v r), (4, .v cv), (5, .box 0 0)], [(0, some (.box 26 [.v (.int .i64 c.ver), .v (.int .i64 c.x), .v (.int .i64 c.y), .v (.int .i64 c.w), .v (.int .i64 c.h), .v (.int .i64 c.sz), .v a, .v b, .v d])), (1, some (.box 71 [.v (.int .i64 c.ver), .v (.int .i64 c.x), .v (.int .i64 c.y), .v (.int .i64 c.w), .v (.int .i64 c.h), .v (.int .i64 c.sz), .v a, .v b, .v d, .v (fitsV B1 B2 B3), .v (.slice none 0 0)]))], 2, M', 86, ⟨fun _ => none, none, fun _ => none⟩⟩)
  (hK2 : sndB c h v = false → ∀ M', M.le M' → K (.tup [.v (.pointer none), .v (.bool false)]) ⟨[(1, .v r), (4, .v cv), (5, .box 0 0)], [(0, some (.box 26 [.v (.int .i64 c.ver), .v (.int .i64 c.x), .v (.int .i64 c.y), .v (.int .i64 c.w), .v (.int .i64 c.h), .v (.int .i64 c.sz), .v a, .v b, .v d]))], 1, M', 86, ⟨fun _ => none, none, fun _ => none⟩⟩) :
  VCall Tryz.prog 32 [.v (chV c a b d), .v (ptv h), .v (ptv v)] ⟨[(1, .v r), (4, .v cv), (5, .box 0 0)], [(0, some (.box 26 [.v (.int .i64 c.ver), .v (.int .i64 c.x), .v (.int .i64 c.y), .v (.int .i64 c.w), .v (.int .i64 c.h), .v (.int .i64 c.sz), .v a, .v b, .v d]))], 1, M, 86, ⟨fun _ => none, none, fun _ => none⟩⟩ K := by
 have hv1 := fun M' (hM : M.le M') => chValid_fn c a b d M' (hc.le hM)
 obtain ⟨⟨ad, ka, rfl⟩, ⟨bd, kb, rfl⟩, dd, kd, rfl⟩ := hc.shape
 refine VCall.post ?_
 refine VCall.inlineM cxOK Tryz.func32 rfl rfl rfl [(5, .box 0 0)] [(1, r), (4, cv)] (by repeat' constructor) (by repeat' constructor) (fun _ => rfl) (fun _ => rfl) ?_
 intro val
 refine VFn.mk _ (hv1 M (Mem.le_refl _)) ?_
 rintro rs M1 hM1 rfl
 refine VIf.mk (fun e1 => ?_) (fun e1 => ?_)
 ·have hb : sndB c h v = false := by unfold sndB; rw [bn1 e1]; rfl
  repeat (first | refine VIf.tt ?_ | refine VIf.ff ?_)
  repeat refine VFact.mk rfl ?_
  refine ⟨.tup [.v (.pointer none), .v (.bool false)], _, ?_, hK2 hb M1 hM1⟩
  exact ⟨⟨id, rfl, rfl, by repeat' constructor, by repeat' constructor, injOK_id _⟩, rfl, rfl, rfl⟩
 have e1 := bn2 e1
 repeat (first | refine VIf.tt ?_ | refine VIf.ff ?_)
 refine VFn.p (isWithin_fn h _ _ M1) ?_
 repeat (first | refine VIf.tt ?_ | refine VIf.ff ?_)
 refine VIf.mk (fun e2 => ?_) (fun e2 => ?_)
 ·have hb : sndB c h v = false := by unfold sndB; rw [show heiB h = false from bn1 e2, Bool.false_and, Bool.and_false]
  repeat (first | refine VIf.tt ?_ | refine VIf.ff ?_)
  repeat refine VFact.mk rfl ?_
  refine ⟨.tup [.v (.pointer none), .v (.bool false)], _, ?_, hK2 hb M1 hM1⟩
  exact ⟨⟨id, rfl, rfl, by repeat' constructor, by repeat' constructor, injOK_id _⟩, rfl, rfl, rfl⟩
 have e2 : heiB h = true := bn2 e2
 repeat (first | refine VIf.tt ?_ | refine VIf.ff ?_)
 refine VFn.p (isWithin_fn v _ _ M1) ?_
 repeat (first | refine VIf.tt ?_ | refine VIf.ff ?_)
 refine VIf.mk (fun e3 => ?_) (fun e3 => ?_)
 ·have hb : sndB c h v = false := by unfold sndB; rw [show depB v = false from bn1 e3, Bool.and_false, Bool.and_false]
  repeat refine VFact.mk rfl ?_
  refine ⟨.tup [.v (.pointer none), .v (.bool false)], _, ?_, hK2 hb M1 hM1⟩
  exact ⟨⟨id, rfl, rfl, by repeat' constructor, by repeat' constructor, injOK_id _⟩, rfl, rfl, rfl⟩
 have e3 : depB v = true := bn2 e3
 have hb : sndB c h v = true := by unfold sndB; rw [e1, e2, e3]; rfl
 refine VFzB.mk fun x1 B1 M2 hM2 h1 => ?_
 refine VFzB.mk fun x2 B2 M3 hM3 h2 => ?_
 refine VFzB.mk fun x3 B3 M4 hM4 h3 => ?_
 repeat refine VFact.mk rfl ?_
 refine ⟨.tup [.box 1 0, .v (.bool true)], _, ?_, hK1 hb M4 B1 B2 B3 (hM1.trans (hM2.trans (hM3.trans hM4))) ⟨hM4 _ _ (hM3 _ _ h1), hM4 _ _ h2, h3⟩⟩
 refine ⟨⟨fun i => if i = 1 then 5 else i, rfl, rfl, by repeat' constructor, by repeat' constructor, injOK_b rfl⟩, rfl, rfl, rfl⟩
end Go.Proofs.YtcdlplobniogpaaGreat
namespace Go.Proofs.YtcdlplobniogpaaGreat
open Go Go.V Go.RowKit
def celP (c : ChartS) (cells : List Int) (k : Nat) : Prop := ∀ j, j < k → (0 ≤ gi cells j ∧ gi cells j < c.cs.length) ∧ (0 < j → gi cells (j - 1) < gi cells j)
instance (c : ChartS) (cells : List Int) (k : Nat) : Decidable (celP c cells k) := by unfold celP; infer_instance
def echL (c : ChartS) (h v : Pt) (cells : List Int) (r : List (List Pt)) : List (List Pt) := r.flatMap (echP c h v cells)
def echOK (c : ChartS) (h v : Pt) (cells : List Int) (r : List (List Pt)) : Bool := sndB c h v && (regionB r && decide (celP c cells cells.length))
theorem echP_valid {c : ChartS} {h v : Pt} {cells : List Int} {p : List Pt} (hV : validB p = true) : ∀ q ∈ echP c h v cells p, validB q = true := by
 intro q hq
 unfold echP at hq
 split at hq
 ·rw [List.mem_singleton.1 hq]; exact hV
 ·rcases List.mem_append.1 hq with hq | hq
  ·obtain ⟨i, hi, rfl⟩ := List.mem_map.1 hq
   have h0 := of_decide_eq_true (List.mem_filter.1 (List.mem_filter.1 hi).1).2
   exact arC_valid (List.ne_nil_of_length_pos h0) (shar_place hV)
  ·refine tidy_valid (fun p' hp' => ?_) q hq
   obtain ⟨p0, h1, h2⟩ := List.mem_flatMap.1 hp'
   rw [List.mem_singleton.1 h1] at h2
   exact outP_valid hV _ _ _ h2
theorem echP_len {c : ChartS} (hF : frameC c) (h v : Pt) (cells : List Int) (p : List Pt) : (echP c h v cells p).length ≤ 4032 := by
 have hc4 := hF.1.2.2.2.2.1
 unfold echP
 split
 ·simp
 ·rw [List.length_append, List.length_map]
  have e2 := List.length_filter_le (okI c h v cells) (touI c p)
  have e3 : (touI c p).length ≤ (underC c (boxLo p) (boxHi p)).length := List.length_filter_le _ _
  have e4 := underC_len c (boxLo p) (boxHi p)
  have e5 := tidy_len ([p].flatMap (outP (bLo c 0) (bHi c (lastI c))))
  unfold withoutB
  omega
theorem echL_take (c : ChartS) (h v : Pt) (cells : List Int) (r : List (List Pt)) {t : Nat} (ht : t < r.length) : echL c h v cells (r.take (t + 1)) = echL c h v cells (r.take t) ++ echP c h v cells (gr r t) := flatR_take [] (echP c h v cells) r ht
set_option maxRecDepth 20000 in
set_option maxHeartbeats 8000000 in
theorem CutE_fn (c : ChartS) (a b d rv cv : Value) (h v : Pt) (r : List (List Pt)) (cells : List Int) (M : Mem) (hc : Cha M c a b d) (hr : RegV M rv r) (hI : IntsV M cv cells) :
  V.Fn Tryz.prog 16 [chV c a b d, rv, ptv h, ptv v, cv] M fun rs M' => if echOK c h v cells r = true then (if (echL c h v cells r).length ≤ 4000 then ∃ u, rs = [u, .int .i64 0] ∧ RegV M' u (tidyB (echL c h v cells r)) else rs = [.slice none 0 0, .int .i64 2]) else rs = [.slice none 0 0, .int .i64 1] := by
 have hVr := regValid_fn rv r
 obtain ⟨⟨ad, ka, rfl⟩, ⟨bd, kb, rfl⟩, dd, kd, rfl⟩ := hc.shape
 obtain ⟨ra, rk, rfl, hrm, hrr⟩ := hr.get
 obtain ⟨ia, ik, rfl, him, hir⟩ := hI.get
 refine Fn.of_vcode cxOK Tryz.func16 rfl rfl rfl ?_
 refine VCode.st cxOK ?_
 refine VCode.st cxIOK ?_
 refine VOwn.own ?_
 refine VCall.wk (st1 := ⟨[(1, .v (.slice ra r.length rk)), (4, .v (.slice ia cells.length ik)), (5, .box 0 0)], [(0, some (.box 26 [.v (.int .i64 c.ver), .v (.int .i64 c.x), .v (.int .i64 c.y), .v (.int .i64 c.w), .v (.int .i64 c.h), .v (.int .i64 c.sz), .v (.slice ad c.cs.length ka), .v (.slice bd c.bs.length kb), .v (.slice dd c.ls.length kd)]))], 1, M, 86, ⟨fun _ => none, none, fun _ => none⟩⟩) (args1 := [.v (chV c (.slice ad c.cs.length ka) (.slice bd c.bs.length kb) (.slice dd c.ls.length kd)), .v (ptv h), .v (ptv v)]) id rfl rfl (by repeat' constructor) (by repeat' constructor) (injOK_id _) rfl rfl rfl ?_
 refine newSounder_call hc (fun hs M1 B1 B2 B3 hM1 hB => ?_) (fun hs M1 hM1 => ?_)
 rotate_left
 ·refine VCode.of_vc cxOK ?_
  repeat (first | refine VIf.tt ?_ | refine VIf.ff ?_)
  exact VFact.mk (by unfold echOK; rw [hs]; rfl) trivial
 have hv : validC c = true := by simp only [sndB, Bool.and_eq_true] at hs; exact hs.1
 have hF := validC_frame hv
 have hc4 := hF.1.2.2.2.2.1
 refine VCode.st cxOK ?_
 repeat (first | refine VIf.tt ?_ | refine VIf.ff ?_)
 refine VFn.mk _ (hVr M1 (hr.le hM1)) ?_
 rintro rs M2 hM2 rfl
 repeat (first | refine VIf.tt ?_ | refine VIf.ff ?_)
 refine VIf.mk (fun e1 => ?_) (fun e1 => ?_)
 ·exact VFact.mk (by unfold echOK; rw [bn1 e1, Bool.false_and, Bool.and_false]; rfl) trivial
 have e1 := bn2 e1
 have mm := hM1.trans hM2
 refine VCode.seq ?_
 refine VCode.st cxOK ?_
 refine VCode.block ?_
 refine VCode.loopG cxOK (fun m => m = fun _ => none) rfl Nat (fun t => ⟨[(1, .v (.slice ra r.length rk)), (4, .v (.slice ia cells.length ik)), (5, .box 0 0), (12, .box 1 0), (32, .v (.slice ia cells.length ik)), (33, .v (.int .i64 cells.length)), (34, .v (.int .i64 t))], [(0, some (.box 26 [.v (.int .i64 c.ver), .v (.int .i64 c.x), .v (.int .i64 c.y), .v (.int .i64 c.w), .v (.int .i64 c.h), .v (.int .i64 c.sz), .v (.slice ad c.cs.length ka), .v (.slice bd c.bs.length kb), .v (.slice dd c.ls.length kd)])), (1, some (.box 71 [.v (.int .i64 c.ver), .v (.int .i64 c.x), .v (.int .i64 c.y), .v (.int .i64 c.w), .v (.int .i64 c.h), .v (.int .i64 c.sz), .v (.slice ad c.cs.length ka), .v (.slice bd c.bs.length kb), .v (.slice dd c.ls.length kd), .v (fitsV B1 B2 B3), .v (.slice none 0 0)]))], 2, M2, 86, ⟨fun _ => none, none, fun _ => none⟩⟩)
  (fun t => t ≤ cells.length ∧ celP c cells t) (fun t => cells.length - t) 0 ⟨Nat.zero_le _, fun j hj => by omega⟩ (Wk.mk' id (by repeat' constructor) (by repeat' constructor) (injOK_id _) rfl rfl rfl) ?_
 rintro t ⟨ht, hcel⟩ m rfl
 refine VIf.mk (fun hlt => ?_) (fun hge => ?_)
 ·have hlt := lt_of_dec hlt
  obtain ⟨a1, f1, f2, f3⟩ := hir M2 mm t hlt
  have no : ¬ ((0 ≤ gi cells t ∧ gi cells t < c.cs.length) ∧ (0 < t → gi cells (t - 1) < gi cells t)) → echOK c h v cells r = false := fun hn => by
   unfold echOK
   rw [decide_eq_false (fun hp => hn (hp t hlt)), Bool.and_false, Bool.and_false]
  refine VIdx.mk a1 t f1 rfl hlt ?_
  refine VRead.mk _ f3 ?_
  have go : ((0 ≤ gi cells t ∧ gi cells t < c.cs.length) ∧ (0 < t → gi cells (t - 1) < gi cells t)) → celP c cells (t + 1) := fun hq j hj => by
   by_cases e : j = t
   ·subst e; exact hq
   ·exact hcel j (by omega)
  generalize gi cells t = x at *
  refine VIf.mk (fun g1 => ?_) (fun g1 => ?_)
  ·have g1 := of_decide_eq_true g1
   repeat (first | refine VIf.tt ?_ | refine VIf.ff ?_)
   exact VFact.mk (by rw [no (by omega)]; rfl) trivial
  have g1 := of_decide_eq_false g1
  repeat (first | refine VIf.tt ?_ | refine VIf.ff ?_)
  refine VIf.mk (fun g2 => ?_) (fun g2 => ?_)
  ·have g2 := of_decide_eq_true g2
   repeat (first | refine VIf.tt ?_ | refine VIf.ff ?_)
   exact VFact.mk (by rw [no (by omega)]; rfl) trivial
  have g2 := of_decide_eq_false g2
  repeat (first | refine VIf.tt ?_ | refine VIf.ff ?_)
  refine VIf.mk (fun g3 => ?_) (fun g3 => ?_)
  ·have g3 := of_decide_eq_true g3
   have hlt1 : t - 1 < cells.length := by omega
   obtain ⟨a2, k1, k2, k3⟩ := hir M2 mm (t - 1) hlt1
   repeat (first | refine VIf.tt ?_ | refine VIf.ff ?_)
   refine VArith.ok (by first | omega | (simp only; omega)) (by first | omega | (simp only; omega)) ?_
   repeat (first | refine VIf.tt ?_ | refine VIf.ff ?_)
   refine VIdx.mk a2 (t - 1) k1 (by omega) hlt1 ?_
   repeat (first | refine VIf.tt ?_ | refine VIf.ff ?_)
   refine VRead.mk _ k3 ?_
   generalize gi cells (t - 1) = z at *
   repeat (first | refine VIf.tt ?_ | refine VIf.ff ?_)
   refine VIf.mk (fun g4 => ?_) (fun g4 => ?_)
   ·have g4 := of_decide_eq_true g4
    exact VFact.mk (by rw [no (by omega)]; rfl) trivial
   have g4 := of_decide_eq_false g4
   refine VArith.ok (by first | omega | (simp only; omega)) (by first | omega | (simp only; omega)) ?_
   exact ⟨rfl, t + 1, ⟨hlt, go (by omega)⟩, (by first | omega | (simp only; omega)), (Wk.mk' id (by repeat' constructor) (by repeat' constructor) (injOK_id _) rfl rfl rfl)⟩
  ·have g3 := of_decide_eq_false g3
   repeat (first | refine VIf.tt ?_ | refine VIf.ff ?_)
   refine VArith.ok (by first | omega | (simp only; omega)) (by first | omega | (simp only; omega)) ?_
   exact ⟨rfl, t + 1, ⟨hlt, go (by omega)⟩, (by first | omega | (simp only; omega)), (Wk.mk' id (by repeat' constructor) (by repeat' constructor) (injOK_id _) rfl rfl rfl)⟩
 have : t = cells.length := by have := ge_of_dec hge; omega
 subst this
 have hok : echOK c h v cells r = true := by
  unfold echOK
  rw [hs, e1, decide_eq_true hcel]; rfl
 refine VCode.seq ?_
 refine VCode.st cxOK ?_
 refine VCode.block ?_
 refine VCode.loopG cxOK (fun m => m = fun _ => none) rfl (Nat × List Value × Mem) (fun (⟨t, xs, M3⟩ : Nat × List Value × Mem) => ⟨[(4, .v (.slice ia cells.length ik)), (12, .box 0 0), (62, .v (.slice ra r.length rk)), (63, .v (.int .i64 r.length)), (64, .v (.int .i64 t))], [(0, some (.box 71 [.v (.int .i64 c.ver), .v (.int .i64 c.x), .v (.int .i64 c.y), .v (.int .i64 c.w), .v (.int .i64 c.h), .v (.int .i64 c.sz), .v (.slice ad c.cs.length ka), .v (.slice bd c.bs.length kb), .v (.slice dd c.ls.length kd), .v (fitsV B1 B2 B3), .row 1])), (1, some (.row 64 1 xs.length xs))], 2, M3, 86, ⟨fun _ => none, none, fun _ => none⟩⟩)
  (fun (⟨t, xs, M3⟩ : Nat × List Value × Mem) => (M2.le M3 ∧ t ≤ r.length) ∧ PlsV M3 xs (echL c h v cells (r.take t))) (fun (⟨t, _, _⟩ : Nat × List Value × Mem) => r.length - t) (0, [], M2) ⟨⟨Mem.le_refl _, Nat.zero_le _⟩, PlsV.nil _⟩
  (Wk.nilBox 1 71 [.v (.int .i64 c.ver), .v (.int .i64 c.x), .v (.int .i64 c.y), .v (.int .i64 c.w), .v (.int .i64 c.h), .v (.int .i64 c.sz), .v (.slice ad c.cs.length ka), .v (.slice bd c.bs.length kb), .v (.slice dd c.ls.length kd), .v (fitsV B1 B2 B3)] [] 64 1 rfl (Wk.mk' (fun i => if i = 0 then 1 else 2) (by repeat' constructor) (by repeat' constructor) (injOK_b rfl) rfl rfl rfl)) ?_
 rintro ⟨t, xs, M3⟩ ⟨⟨hM3, ht⟩, hxs⟩ m rfl
 have hr32 : r.length ≤ 32 := by
  simp only [regionB, Bool.and_eq_true, decide_eq_true_eq] at e1
  exact e1.1
 have hall : ∀ p ∈ r, validB p = true := by
  simp only [regionB, Bool.and_eq_true] at e1
  exact fun p hp => List.all_eq_true.1 e1.2 p hp
 have m3 := mm.trans hM3
 have hxl : xs.length ≤ 200000 := by
  have h1 := flatMap_len (echP c h v cells) 4032 (echP_len hF h v cells) (r.take t)
  have h2 := hxs.1
  unfold echL at h2
  rw [List.length_take] at h1
  omega
 refine VIf.mk (fun hlt => ?_) (fun hge => ?_)
 ·have hlt := lt_of_dec hlt
  obtain ⟨a1, w1, f1, p1, q1, c1⟩ := hrr M3 m3 t hlt
  refine VIdx.mk a1 t f1 rfl hlt ?_
  refine VRead.mk _ c1 ?_
  refine VOwn.own ?_
  refine VCall.wk (st1 := ⟨[(4, .v (.slice ia cells.length ik)), (12, .box 0 0), (62, .v (.slice ra r.length rk)), (63, .v (.int .i64 r.length)), (64, .v (.int .i64 t))], [(0, some (.box 71 [.v (.int .i64 c.ver), .v (.int .i64 c.x), .v (.int .i64 c.y), .v (.int .i64 c.w), .v (.int .i64 c.h), .v (.int .i64 c.sz), .v (.slice ad c.cs.length ka), .v (.slice bd c.bs.length kb), .v (.slice dd c.ls.length kd), .v (fitsV B1 B2 B3), .row 1])), (1, some (.row 64 1 xs.length xs))], 2, M3, 86, ⟨fun _ => none, none, fun _ => none⟩⟩) (args1 := [.box 0 0, .v w1, .v (.slice ia cells.length ik)]) id rfl rfl (by repeat' constructor) (by repeat' constructor) (injOK_id _) rfl rfl rfl ?_
  refine take_call (hc.le m3) hs (hB.le (hM2.trans hM3)) (hI.le m3) p1 (val_gr hall hlt) rfl hxl fun M4 ys hM4 hys => ?_
  refine VArith.ok (by first | omega | (simp only; omega)) (by first | omega | (simp only; omega)) ?_
  refine ⟨rfl, (t + 1, xs ++ ys, M4), ⟨⟨hM3.trans hM4, hlt⟩, ?_⟩, (by first | omega | (simp only; omega)), (Wk.mk' id (by repeat' constructor) (by repeat' constructor) (injOK_id _) rfl rfl rfl)⟩
  rw [echL_take c h v cells r hlt]
  exact (hxs.le hM4).app hys
 have : t = r.length := by have := ge_of_dec hge; omega
 subst this
 rw [List.take_length] at hxs
 have hval : ∀ q ∈ echL c h v cells r, validB q = true := fun q hq => by
  obtain ⟨p, hp, hq⟩ := List.mem_flatMap.1 hq
  exact echP_valid (hall p hp) q hq
 rw [hok]
 simp only [if_true]
 refine VCode.of_vc cxOK ?_
 refine VIf.mk (fun hbig => ?_) (fun hbig => ?_)
 ·have hbig := of_decide_eq_true hbig
  exact VFact.mk (by show (if (echL c h v cells r).length ≤ 4000 then _ else _); rw [if_neg (by have := hxs.1; omega)]) trivial
 have hbig : (echL c h v cells r).length ≤ 4000 := by have := of_decide_eq_false hbig; have := hxs.1; omega
 refine VFz.mk fun x Bx M4 hM4 hx => ?_
 have hT := Tidy_fn x (echL c h v cells r) M4 (RegV.of' hx hxs.1 (hxs.le hM4))
 have hto : tidyOK (echL c h v cells r) = true := by
  unfold tidyOK
  rw [decide_eq_true hbig, Bool.true_and, List.all_eq_true]
  exact hval
 rw [hto] at hT
 simp only [if_true] at hT
 refine VFn.mk _ hT ?_
 rintro rs M5 hM5 ⟨u, rfl, hu⟩
 exact VFact.mk (by show (if (echL c h v cells r).length ≤ 4000 then _ else _); rw [if_pos hbig]; exact ⟨u, rfl, hu⟩) trivial
end Go.Proofs.YtcdlplobniogpaaGreat
namespace Go.Proofs.YtcdlplobniogpaaGreat
open Go Go.V Go.RowKit
def flatI (ps : List Pt) : Prop := ∀ p ∈ ps, p.2 = 0
theorem flatI.gp {ps : List Pt} (h : flatI ps) (i : Nat) : (gp ps i).2 = 0 := by
 unfold Go.Proofs.YtcdlplobniogpaaGreat.gp
 by_cases hi : i < ps.length
 ·simp only [List.getD, List.getElem?_eq_getElem hi, Option.getD_some]; exact h _ (List.getElem_mem hi)
 ·simp [List.getD, List.getElem?_eq_none (Nat.not_lt.1 hi)]
theorem flatI.eq {ps : List Pt} (h : flatI ps) {i j : Nat} (e : (Go.Proofs.YtcdlplobniogpaaGreat.gp ps i).1 = (Go.Proofs.YtcdlplobniogpaaGreat.gp ps j).1) : Go.Proofs.YtcdlplobniogpaaGreat.gp ps i = Go.Proofs.YtcdlplobniogpaaGreat.gp ps j := Prod.ext e (by rw [h.gp, h.gp])
def cellsI (ps : List Pt) : List Value := ps.map fun p => .int .i64 p.1
theorem cellsI_len (ps : List Pt) : (cellsI ps).length = ps.length := by simp [cellsI]
theorem cellsI_put (ys : List Pt) (i : Nat) (p : Pt) (h : i < ys.length) : rput (cellsI ys) (i * 1) [.int .i64 p.1] = cellsI (ys.set i p) := by
 unfold rput cellsI
 rw [Nat.mul_one, List.map_set, List.set_eq_take_append_cons_drop, if_pos (by simpa using h)]
 simp
theorem cellsI_take (ys : List Pt) (k : Nat) : (cellsI ys).take (k * 1) = cellsI (ys.take k) := by
 unfold cellsI; rw [Nat.mul_one, List.map_take]
theorem rowI_get (ys : List Pt) {i : Nat} (hi : i < ys.length) : ∀ j v, ([.int .i64 (gp ys i).1] : List Value)[j]? = some v → (cellsI ys)[i * 1 + j]? = some v := by
 intro j v hv
 match j with
 | 0 =>
  simp at hv; subst hv
  simp [cellsI, gp, hi]
 | j + 1 => simp at hv
open Go.Sort in
theorem SortI_call {id : Nat} {st : St} {K : SV → St → Prop} {n : Nat} {xs : List Value} {l : List Int} (hid : st.own id = some (.row 3 1 n xs)) (hn : n = l.length) (hx : xs = l.map (Value.int .i64)) (hsz : l.length < 4611686018427387904)
  (hK : K (.v (.tuple #[])) { st with ow := (id, some (.row 3 1 l.length ((l.mergeSort fun x y => decide (x ≤ y)).map (Value.int .i64)))) :: st.ow }) :
  VCall Tryz.prog 37 [.row id] st K := by
 subst hn; subst hx
 refine VCall.set (enters_of Tryz.func37 (by kernel_rfl) rfl) hid (fun y hy => by obtain ⟨x, _, rfl⟩ := List.mem_map.1 hy; rfl) ?_ hK
 intro n₀ W v ρ hv hs
 subst hv
 have key : Calls Tryz.prog 37 #[slOf (ρ id)] W fun e W' => e = .returned (.tuple #[]) ∧ W.grownBy W' (ob (slOf (ρ id))) ∧ W'.ownsRow n₀ 3 1 (slOf (ρ id)) l.length ((l.mergeSort fun x y => decide (x ≤ y)).map (Value.int .i64)) := by
  generalize slOf (ρ id) = v at hs
  obtain ⟨hlen, hcase⟩ := hs
  rcases hcase with ⟨rfl, h0⟩ | ⟨g, cap, cur, rfl, hg, hh, hnc, hcm, hcs, hct⟩
  ·have hp : l = [] := List.eq_nil_of_length_eq_zero h0
   subst hp
   refine (AnyM.slices_Sort_int_none Tryz.sortA none 0 W).mono ?_
   rintro e W' ⟨rfl, rfl⟩
   refine ⟨rfl, ⟨rfl, rfl, rfl, Nat.le_refl _, fun _ _ _ => rfl⟩, ?_, .inl ⟨rfl, rfl⟩⟩
   simp
  ·have hlt : g < W.heap.size := (Array.getElem?_eq_some_iff.1 hh).1
   refine (AnyM.slices_Sort_int Tryz.sortA g 0 cap l W (holds_of_blockI hh (by rw [← hct, Nat.mul_one])) hlt hsz).mono ?_
   rintro e W' ⟨rfl, m, os, rfl⟩
   exact ⟨rfl, grownBy_sortedI _, ownsRow_sortedI (List.length_mergeSort _) hg hh hnc hcm hcs⟩
 exact key
set_option maxHeartbeats 1000000 in
theorem CompactI_call {n nt : Nat} {xs : List Value} {ps : List Pt} {M : Mem} {G : Gh} {K : SV → St → Prop} (hn : n = ps.length) (hx : xs = cellsI ps) (hz : flatI ps) (hsz : ps.length < 4611686018427387904)
  (hK : K (.row 0) ⟨[], [(0, some (.row 3 1 (compactP ps).length (cellsI (compactP ps))))], 1, M, nt, G⟩) :
  VCall Tryz.prog 38 [.row 0] ⟨[], [(0, some (.row 3 1 n xs))], 1, M, nt, G⟩ K := by
 subst hn; subst hx
 refine VCall.post ?_
 refine VCall.inline cxOK Tryz.func38 rfl rfl rfl [] [] trivial trivial ?_
 intro val f0
 refine VIf.mk (fun h => ?_) (fun h => ?_)
 ·have h := lt_of_dec h
  refine VFact.mk (fun _ _ h => h) ?_
  refine VFact.mk (fun _ => rfl) ?_
  have e : compactP ps = ps := compactP_short (by omega)
  exact ⟨_, ⟨[], [(0, some (.row 3 1 (compactP ps).length (cellsI (compactP ps))))], 1, M, nt, G⟩, ⟨⟨fun _ => 0, rfl, rfl, trivial, ⟨⟨rfl, rfl, rfl, by rw [e], by rw [e]⟩, trivial⟩, injOK_one _ _ _⟩, rfl, rfl, rfl⟩, hK⟩
 have h := ge_of_dec h
 refine VCode.loopG cxOK (fun m => m = fun _ => none) rfl Nat (fun k => ⟨[(0, .row 0), (3, .v (.int .i64 k))], [(0, some (.row 3 1 ps.length (cellsI ps)))], 1, M, 61, ⟨fun _ => none, none, f0⟩⟩)
  (fun k => 1 ≤ k ∧ k ≤ ps.length ∧ ∀ j, j < k → keepB ps j = true) (fun k => ps.length - k) 1 ⟨Nat.le_refl _, Nat.le_of_succ_le h, fun j (hj : j < 1) => (Nat.lt_one_iff.1 hj).symm ▸ rfl⟩ (Wk.mk' id (by repeat' constructor) (by repeat' constructor) (injOK_id _) rfl rfl rfl) ?_
 rintro k ⟨hk1, hk2, hk3⟩ m rfl
 refine VIf.mk (fun hlt => ?_) (fun hge => ?_)
 ·have hlt := lt_of_dec hlt
  refine VDraw.go (by kernel_rfl) ?_
  refine VIdxR.mk k rfl hlt ?_
  refine VCells.mk [.int .i64 (gp ps k).1] rfl (rowI_get ps hlt) ?_
  refine ⟨_, rfl, ?_⟩
  refine VArith.ok (by first | omega | (simp only; omega)) (by first | omega | (simp only; omega)) ?_
  refine VIdxR.mk (k - 1) (by omega) (by omega) ?_
  refine VCells.mk [.int .i64 (gp ps (k - 1)).1] rfl (rowI_get ps (by omega)) ?_
  refine ⟨_, rfl, ?_⟩
  refine VIf.mk (fun hd => ?_) (fun hd => ?_)
  ·
   have hkk : keepB ps k = false := by
    have hd := of_decide_eq_true hd
    simp only [keepB, Bool.or_eq_false_iff, beq_eq_false_iff_ne, bne_eq_false_iff_eq]
    exact ⟨by omega, hz.eq hd⟩
   have hm : midP ps (k + 1) = ps := by
    rw [← midP_skip ps hkk]
    unfold midP
    rw [comp_all ps k hk2 hk3, List.length_take, Nat.min_eq_left hk2, List.take_append_drop]
   have hc : (comp ps (k + 1)).length = k := by
    rw [comp_succ, if_neg (by rw [hkk]; exact Bool.false_ne_true), comp_all ps k hk2 hk3, List.length_take, Nat.min_eq_left hk2]
   refine VFact.mk (by omega) ?_
   refine VBnd.mk k rfl hk2 ?_
   refine VFact.mk hlt ?_
   refine VCode.loopG cxOK (fun m => m = fun _ => none) rfl (Nat × Nat × List Value) (fun (⟨kk, k2, ys⟩ : Nat × Nat × List Value) => ⟨[(0, .row 0), (3, .v (.int .i64 kk)), (4, .row 1), (5, .v (.int .i64 k2))], [(0, some (.row 3 1 ps.length ys)), (1, some (.vw 1 0 k (ps.length - k)))], 2, M, 61, ⟨fun _ => none, none, f0⟩⟩)
    (fun (⟨kk, k2, ys⟩ : Nat × Nat × List Value) => 1 ≤ k2 ∧ k + k2 ≤ ps.length ∧ kk = (comp ps (k + k2)).length ∧ ys = cellsI (midP ps (k + k2)) ∧ kk + 1 ≤ k + k2) (fun (⟨_, k2, _⟩ : Nat × Nat × List Value) => ps.length - k2) (k, 1, cellsI ps) ⟨Nat.le_refl _, hlt, hc.symm, by rw [hm], Nat.le_refl _⟩ ?_ ?_
   ·refine Wk.mk' (fun i => i) (by repeat' constructor) (by repeat' constructor) (injOK_id _) rfl rfl rfl
   rintro ⟨kk, k2, ys⟩ ⟨h1, h2, h3, h4, h5⟩ m rfl
   subst h4
   have hml := midP_len ps (j := k + k2) h2
   refine VIf.mk (fun hl2 => ?_) (fun hg2 => ?_)
   ·have hl2 := lt_of_dec hl2
    have hj : k + k2 < ps.length := by omega
    refine VDraw.go (by kernel_rfl) ?_
    refine VIdxR.mk k2 rfl hl2 ?_
    refine VCells.mk [.int .i64 (gp ps (k + k2)).1] rfl ?_ ?_
    ·rw [← midP_get ps (j := k + k2) (i := k + k2) (by omega)]
     exact rowI_get _ (by omega)
    refine ⟨_, rfl, ?_⟩
    refine VArith.ok (by first | omega | (simp only; omega)) (by first | omega | (simp only; omega)) ?_
    refine VIdxR.mk (k2 - 1) (by omega) (by omega) ?_
    refine VCells.mk [.int .i64 (gp ps (k + (k2 - 1))).1] rfl ?_ ?_
    ·rw [← midP_get ps (j := k + k2) (i := k + (k2 - 1)) (by omega)]
     exact rowI_get _ (by omega)
    refine ⟨_, rfl, ?_⟩
    refine VIf.mk (fun hd => ?_) (fun hd => ?_)
    ·have hkj : keepB ps (k + k2) = true := by
      have hd := bne_iff_ne.1 hd
      simp only [keepB, Bool.or_eq_true, beq_iff_eq, bne_iff_ne]
      refine .inr fun e => ?_
      rw [show k + k2 - 1 = k + (k2 - 1) by omega] at e
      exact hd (congrArg Prod.fst e)
     refine VIdxR.mk k2 rfl hl2 ?_
     refine VCells.mk [.int .i64 (gp ps (k + k2)).1] rfl ?_ ?_
     ·rw [← midP_get ps (j := k + k2) (i := k + k2) (by omega)]
      exact rowI_get _ (by omega)
     refine ⟨_, rfl, ?_⟩
     refine VIdxR.mk kk rfl (by omega) ?_
     have hfit : kk * 1 + 1 ≤ (cellsI (midP ps (k + k2))).length := by rw [cellsI_len, hml]; omega
     refine VFact.mk hfit ?_
     refine VArith.ok (by first | omega | (simp only; omega)) (by first | omega | (simp only; omega)) ?_
     refine VArith.ok (by first | omega | (simp only; omega)) (by first | omega | (simp only; omega)) ?_
     refine ⟨rfl, (kk + 1, k2 + 1, rput (cellsI (midP ps (k + k2))) (kk * 1) [.int .i64 (gp ps (k + k2)).1]), ⟨by omega, by omega, ?_, ?_, by omega⟩, ?_, (Wk.mk' id (by repeat' constructor) (by repeat' constructor) (injOK_id _) rfl rfl rfl)⟩
     ·rw [show k + (k2 + 1) = k + k2 + 1 by omega, comp_succ, if_pos hkj]
      simp [h3]
     ·rw [show k + (k2 + 1) = k + k2 + 1 by omega, ← midP_set ps hj hkj, ← h3, cellsI_put _ _ _ (by omega)]
     ·show ps.length - (k2 + 1) < ps.length - k2
      omega
    ·have hkj : keepB ps (k + k2) = false := by
      have hd := bne_eq_false_iff_eq.1 hd
      simp only [keepB, Bool.or_eq_false_iff, beq_eq_false_iff_ne, bne_eq_false_iff_eq]
      rw [show k + k2 - 1 = k + (k2 - 1) by omega]
      exact ⟨by omega, hz.eq hd⟩
     refine VArith.ok (by first | omega | (simp only; omega)) (by first | omega | (simp only; omega)) ?_
     refine ⟨rfl, (kk, k2 + 1, cellsI (midP ps (k + k2))), ⟨by omega, by omega, ?_, ?_, by omega⟩, ?_, (Wk.mk' id (by repeat' constructor) (by repeat' constructor) (injOK_id _) rfl rfl rfl)⟩
     ·rw [show k + (k2 + 1) = k + k2 + 1 by omega, comp_succ, if_neg (by rw [hkj]; exact Bool.false_ne_true)]
      exact h3
     ·rw [show k + (k2 + 1) = k + k2 + 1 by omega, ← midP_skip ps hkj]
     ·show ps.length - (k2 + 1) < ps.length - k2
      omega
   ·have : k + k2 = ps.length := by have := ge_of_dec hg2; omega
    rw [this] at h3 h5 hml ⊢
    have hkn : kk < ps.length := by omega
    refine VFact.mk (by omega) ?_
    refine VBnd.mk kk rfl (by omega) ?_
    refine VFact.mk hkn ?_
    refine VFact.mk ⟨by omega, by rw [cellsI_len, hml]; omega⟩ ?_
    refine VBnd.mk kk rfl (by omega) ?_
    refine VFact.mk (fun _ _ h => h) ?_
    refine VFact.mk (fun _ => rfl) ?_
    refine ⟨_, ⟨[], [(0, some (.row 3 1 (compactP ps).length (cellsI (compactP ps))))], 1, M, nt, G⟩, ⟨⟨fun _ => 3, rfl, rfl, trivial, ⟨⟨rfl, rfl, rfl, ?_, ?_⟩, trivial⟩, injOK_one _ _ _⟩, rfl, rfl, rfl⟩, hK⟩
    ·exact h3.symm
    ·rw [rput_take_off (by rw [cellsI_len, hml]; omega), cellsI_take, h3]
     unfold midP
     rw [List.take_left]
     rfl
  ·have hkk : keepB ps k = true := by
    have hd := of_decide_eq_false hd
    simp only [keepB, Bool.or_eq_true, beq_iff_eq, bne_iff_ne]
    exact .inr fun e => hd (congrArg Prod.fst e)
   refine VArith.ok (by first | omega | (simp only; omega)) (by first | omega | (simp only; omega)) ?_
   refine ⟨rfl, k + 1, ⟨by omega, by omega, fun j hj => ?_⟩, (by first | omega | (simp only; omega)), (Wk.mk' id (by repeat' constructor) (by repeat' constructor) (injOK_id _) rfl rfl rfl)⟩
   by_cases e : j = k
   ·subst e; exact hkk
   ·exact hk3 j (by omega)
 ·have : k = ps.length := by have := ge_of_dec hge; omega
  subst this
  refine VFact.mk (fun _ _ h => h) ?_
  refine VFact.mk (fun _ => rfl) ?_
  have e : compactP ps = ps := by
   unfold compactP
   rw [comp_all ps _ (Nat.le_refl _) hk3, List.take_length]
  exact ⟨_, ⟨[], [(0, some (.row 3 1 (compactP ps).length (cellsI (compactP ps))))], 1, M, nt, G⟩, ⟨⟨fun _ => 0, rfl, rfl, trivial, ⟨⟨rfl, rfl, rfl, by rw [e], by rw [e]⟩, trivial⟩, injOK_one _ _ _⟩, rfl, rfl, rfl⟩, hK⟩
end Go.Proofs.YtcdlplobniogpaaGreat
namespace Go.Proofs.YtcdlplobniogpaaGreat
open Go Go.V Go.RowKit
theorem touched_fn (B : Nat) (w : Value) {wa : Option Addr} {wn wk : Nat} (hw : w = .slice wa wn wk) (M : Mem) : V.Fn Tryz.prog 36 [.pointer (some ⟨B, 0, none⟩), w] M fun rs M' => ∃ Bp Bs, rs = [.func (.func 58) #[] #[.pointer (some ⟨Bp, 0, none⟩), .pointer (some ⟨Bs, 0, none⟩)]] ∧
  M' Bp = some (.cells #[w] 64 (0, 0)) ∧ M' Bs = some (.cells #[.pointer (some ⟨B, 0, none⟩)] 66 (0, 0)) := by
 subst hw
 refine Fn.of_vc cxOK Tryz.func36 rfl rfl rfl ?_
 refine VFzB.mk fun x1 B1 M1 hM1 h1 => ?_
 refine VFzB.mk fun x2 B2 M2 hM2 h2 => ?_
 exact VFact.mk ⟨B1, B2, rfl, hM2 _ _ h1, h2⟩ trivial
set_option maxRecDepth 20000 in
theorem FitsE_fn (c : ChartS) (a b d : Value) (i : Int) (h v : Pt) (M : Mem) (hc : Cha M c a b d) :
  V.Fn Tryz.prog 11 [chV c a b d, .int .i64 i, ptv h, ptv v] M fun rs _ => rs = if sndB c h v = true ∧ (0 ≤ i ∧ i < c.cs.length) then [.bool (fitI c h v i), .int .i64 0] else [.bool false, .int .i64 1] := by
 have hN := newSounder_fn c a b d h v M hc
 obtain ⟨⟨ad, ka, rfl⟩, ⟨bd, kb, rfl⟩, dd, kd, rfl⟩ := hc.shape
 refine Fn.of_vc cxOK Tryz.func11 rfl rfl rfl ?_
 refine VFn.mk _ hN ?_
 intro rs M1 hM1 hrs
 by_cases hs : sndB c h v = true
 rotate_left
 ·rw [if_neg hs] at hrs
  subst hrs
  repeat (first | refine VIf.tt ?_ | refine VIf.ff ?_)
  exact VFact.mk (by rw [if_neg (fun h => hs h.1)]) trivial
 rw [if_pos hs] at hrs
 obtain ⟨B, B1, B2, B3, rfl, hB, hS⟩ := hrs
 repeat (first | refine VIf.tt ?_ | refine VIf.ff ?_)
 refine VIf.mk (fun g1 => ?_) (fun g1 => ?_)
 ·have g1 := of_decide_eq_true g1
  repeat (first | refine VIf.tt ?_ | refine VIf.ff ?_)
  exact VFact.mk (by rw [if_neg (fun h => by omega)]) trivial
 have g1 := of_decide_eq_false g1
 repeat (first | refine VIf.tt ?_ | refine VIf.ff ?_)
 refine VIf.mk (fun g2 => ?_) (fun g2 => ?_)
 ·have g2 := of_decide_eq_true g2
  exact VFact.mk (by rw [if_neg (fun h => by omega)]) trivial
 have g2 := of_decide_eq_false g2
 refine VRead.mk (fitsV B1 B2 B3) (cellAt hB 9 rfl) ?_
 refine VFn.p (fits_fn c _ _ _ h v i B1 B2 B3 M1 hS (hc.le hM1).cs hs (by omega)) ?_
 exact VFact.mk (by rw [if_pos ⟨hs, by omega⟩]) trivial
def conA (c : ChartS) (h v : Pt) (p : List Pt) : List Int := (touI c p).filter fun i => !fitI c h v i
def conL (c : ChartS) (h v : Pt) (r : List (List Pt)) : List Int := (compactP (((r.flatMap (conA c h v)).mergeSort fun x y => decide (x ≤ y)).map fun i => (i, 0))).map Prod.fst
theorem mem_compactP {ps : List Pt} {x : Pt} (h : x ∈ compactP ps) : x ∈ ps := by
 unfold compactP comp at h
 obtain ⟨i, hi, rfl⟩ := List.mem_map.1 h
 have hi := List.mem_range.1 (List.mem_filter.1 hi).1
 unfold gp
 simp [hi]
theorem conL_mem1 {c : ChartS} {h v : Pt} {r : List (List Pt)} {i : Int} (hi : i ∈ conL c h v r) : i ∈ r.flatMap (conA c h v) := by
 unfold conL at hi
 obtain ⟨p, hp, rfl⟩ := List.mem_map.1 hi
 obtain ⟨j, hj, rfl⟩ := List.mem_map.1 (mem_compactP hp)
 exact List.mem_mergeSort.1 hj
theorem conL_bd {c : ChartS} {h v : Pt} {r : List (List Pt)} {i : Int} (hi : i ∈ conL c h v r) : 0 ≤ i ∧ i < c.cs.length := by
 obtain ⟨p, _, hp⟩ := List.mem_flatMap.1 (conL_mem1 hi)
 exact touI_bd (List.mem_filter.1 hp).1
set_option maxRecDepth 20000 in
set_option maxHeartbeats 4000000 in
theorem ConflictsE_fn (c : ChartS) (a b d rv : Value) (h v : Pt) (r : List (List Pt)) (M : Mem) (hc : Cha M c a b d) (hr : RegV M rv r) :
  V.Fn Tryz.prog 13 [chV c a b d, rv, ptv h, ptv v] M fun rs M' => if sndB c h v = true ∧ regionB r = true then ∃ u, rs = [u, .int .i64 0] ∧ IntsV M' u (conL c h v r) else rs = [.slice none 0 0, .int .i64 1] := by
 have hVr := regValid_fn rv r
 have hN := newSounder_fn c a b d h v M hc
 obtain ⟨⟨ad, ka, rfl⟩, ⟨bd, kb, rfl⟩, dd, kd, rfl⟩ := hc.shape
 obtain ⟨ra, rk, rfl, hrm, hrr⟩ := hr.get
 refine Fn.of_vcode cxOK Tryz.func13 rfl rfl rfl ?_
 refine VCode.st cxOK ?_
 refine VCode.st cxOK ?_
 refine VFn.mk _ hN ?_
 intro rs M1 hM1 hrs
 by_cases hs : sndB c h v = true
 rotate_left
 ·rw [if_neg hs] at hrs
  subst hrs
  refine VCode.of_vc cxOK ?_
  repeat (first | refine VIf.tt ?_ | refine VIf.ff ?_)
  exact VFact.mk (by show (if _ ∧ _ then _ else _); rw [if_neg (fun h => hs h.1)]) trivial
 rw [if_pos hs] at hrs
 obtain ⟨B, B1, B2, B3, rfl, hB, hS⟩ := hrs
 have hv : validC c = true := by simp only [sndB, Bool.and_eq_true] at hs; exact hs.1
 have hF := validC_frame hv
 have hc4 := hF.1.2.2.2.2.1
 refine VCode.st cxOK ?_
 repeat (first | refine VIf.tt ?_ | refine VIf.ff ?_)
 refine VFn.mk _ (hVr M1 (hr.le hM1)) ?_
 rintro rs M2 hM2 rfl
 repeat (first | refine VIf.tt ?_ | refine VIf.ff ?_)
 refine VIf.mk (fun e1 => ?_) (fun e1 => ?_)
 ·have e1 := bn1 e1
  exact VFact.mk (by show (if _ ∧ _ then _ else _); rw [if_neg (fun h => by rw [e1] at h; cases h.2)]) trivial
 have e1 := bn2 e1
 have mm := hM1.trans hM2
 have hB2 := hM2 _ _ hB
 have hr32 : r.length ≤ 32 := by
  simp only [regionB, Bool.and_eq_true, decide_eq_true_eq] at e1
  exact e1.1
 have hall : ∀ p ∈ r, validB p = true := by
  simp only [regionB, Bool.and_eq_true] at e1
  exact fun p hp => List.all_eq_true.1 e1.2 p hp
 have hlen : ∀ p, (conA c h v p).length ≤ 4000 := fun p => by
  have e2 := List.length_filter_le (fun i => !fitI c h v i) (touI c p)
  have e3 : (touI c p).length ≤ (underC c (boxLo p) (boxHi p)).length := List.length_filter_le _ _
  have e4 := underC_len c (boxLo p) (boxHi p)
  unfold conA
  omega
 refine VCode.st cxOK ?_
 refine VCode.ease ⟨[(1, .v (.slice ra r.length rk)), (10, .box 0 0), (12, .box 1 0)], [(0, some (.box 66 [.v (.pointer (some ⟨B, 0, none⟩))])), (1, some (.box 30 [.v (.slice none 0 0)]))], 2, M2, 57, ⟨fun _ => none, none, fun _ => none⟩⟩ (Wk.mk' (fun i => i + 3) (by repeat' constructor) (by repeat' constructor) (injOK_b rfl) rfl rfl rfl) fun m0 => ?_
 refine VCode.seq ?_
 refine VCode.st cxOK ?_
 refine VCode.block ?_
 refine VCode.loopC (Nat × List Int × Mem) (fun (⟨k, L, M3⟩ : Nat × List Int × Mem) => ⟨[(10, .box 0 0), (12, .box 1 0), (30, .v (.slice ra r.length rk)), (31, .v (.int .i64 r.length)), (32, .v (.int .i64 k))], [(0, some (.box 66 [.v (.pointer (some ⟨B, 0, none⟩))])), (1, some (.box 30 [.row 2])), (2, some (.row 3 1 L.length (L.map (Value.int .i64))))], 3, M3, 57, ⟨fun _ => none, none, fun _ => none⟩⟩)
  (fun (⟨k, L, M3⟩ : Nat × List Int × Mem) => (M2.le M3 ∧ k ≤ r.length) ∧ L = (r.take k).flatMap (conA c h v)) (fun (⟨k, _, _⟩ : Nat × List Int × Mem) => r.length - k) (0, [], M2) ⟨⟨Mem.le_refl _, Nat.zero_le _⟩, rfl⟩
  (Wk.nilBox 1 30 [] [] 3 1 rfl (Wk.mk' id (by repeat' constructor) (by repeat' constructor) (injOK_id _) rfl rfl rfl)) ?_
 rintro ⟨k, L, M3⟩ ⟨⟨hM3, hk⟩, hL⟩ m
 have hLl : L.length ≤ 128000 := by
  have h1 := flatMap_len (conA c h v) 4000 hlen (r.take k)
  rw [List.length_take] at h1
  rw [hL]
  omega
 have m3 := mm.trans hM3
 refine VCode.st cxOK ?_
 refine VCode.st cxOK ?_
 refine VIf.mk (fun hlt => ?_) (fun hge => ?_)
 ·have hlt := lt_of_dec hlt
  obtain ⟨a1, w1, f1, p1, q1, c1⟩ := hrr M3 m3 k hlt
  have hV : validB (gr r k) = true := val_gr hall hlt
  have p1 : Pts M3 w1 (gr r k) := p1
  have hst : (r.take (k + 1)).flatMap (conA c h v) = (r.take k).flatMap (conA c h v) ++ conA c h v (gr r k) := flatR_take [] (conA c h v) r hlt
  generalize gr r k = p at *
  obtain ⟨wa, wk, rfl⟩ := p1.shape
  refine VCode.seq (VCode.block ?_)
  refine VCode.st cxOK ?_
  refine VIdx.mk a1 k f1 rfl hlt ?_
  refine VRead.mk _ c1 ?_
  refine VCode.st cxOK ?_
  refine VFn.mk _ (touched_fn B _ rfl M3) ?_
  rintro rs M4 hM4 ⟨Bp, Bs, rfl, hp, hs'⟩
  refine VCode.block ?_
  have m4 := m3.trans hM4
  have hB4 := hM4 _ _ (hM3 _ _ hB2)
  have hit : IterG Tryz.prog 58 #[.pointer (some ⟨Bp, 0, none⟩), .pointer (some ⟨Bs, 0, none⟩)] M4 [] (fun (_ : Unit) _ => none) (touQ c p) (touT c p) :=
   touched_iter c _ _ _ _ p M4 Bp Bs B (fun _ h => by cases h) (fun _ _ h => by cases h) (fun M5 _ hM5 _ => ⟨hM5 _ _ hp, hM5 _ _ hs', _, _, hM5 _ _ hB4⟩) (hc.le m4) hv (p1.le hM4) hV
  obtain ⟨T, hT⟩ : ∃ T, T = touI c p := ⟨_, rfl⟩
  have elen : (touT c p).length = T.length := by rw [hT]; unfold touT; rw [List.length_map]
  refine VCode.rangeGB cxOK (gs := .v (.func (.func 58) #[] #[.pointer (some ⟨Bp, 0, none⟩), .pointer (some ⟨Bs, 0, none⟩)])) rfl (fun _ _ _ _ _ _ => rfl) hit (touQ_len c p) (touQ_mono c p) [(10, .box 0 0), (12, .box 1 0), (30, .v (.slice ra r.length rk)), (31, .v (.int .i64 r.length)), (32, .v (.int .i64 k))] (by kernel_rfl) (by kernel_rfl) (by kernel_rfl) (List Int × Mem)
   (fun _ (⟨L', M5⟩ : List Int × Mem) => ⟨[(10, .box 0 0), (12, .box 1 0), (30, .v (.slice ra r.length rk)), (31, .v (.int .i64 r.length)), (32, .v (.int .i64 k))], [(0, some (.box 66 [.v (.pointer (some ⟨B, 0, none⟩))])), (1, some (.box 30 [.row 2])), (2, some (.row 3 1 (L ++ L').length ((L ++ L').map (Value.int .i64))))], 3, M5, 57, ⟨fun _ => none, none, fun _ => none⟩⟩)
   (fun t (⟨L', M5⟩ : List Int × Mem) => (M4.le M5 ∧ t ≤ T.length) ∧ L' = (T.take t).filter fun i => !fitI c h v i) ([], M4) ⟨⟨Mem.le_refl _, Nat.zero_le _⟩, rfl⟩ ?_ ?_ ?_ ?_ ?_ ?_
  ·refine Wk.mk' id (by repeat' constructor) ?_ (injOK_id _) rfl rfl rfl
   repeat' constructor
   all_goals simp
  ·rintro t ⟨L', M5⟩
   exact ⟨rfl, rfl⟩
  ·rintro t ⟨L', M5⟩ ⟨⟨h1, _⟩, _⟩
   exact h1
  ·rintro t ⟨L', M5⟩ _ n₀ w' M₀ ρ G W' hS
   exact ⟨(), fun e he => by cases he⟩
  ·rintro t ⟨L', M5⟩ tag args ⟨⟨h1, h2⟩, h3⟩ htag Mn hMn ⟨j, q, rfl, rfl, hj, hq⟩ m f
   have hjb := touI_bd hj
   have hjl : T[t]? = some j := by
    unfold touT at htag
    rw [List.getElem?_map, ← hT] at htag
    cases hLk : T[t]? with
    | none => rw [hLk] at htag; cases htag
    | some j' => rw [hLk] at htag; cases htag; rfl
   have hk1 : t + 1 ≤ T.length := (List.getElem?_eq_some_iff.1 hjl).1
   have htk : T.take (t + 1) = T.take t ++ [j] := by rw [List.take_add_one, hjl]; rfl
   have ml := h1.trans hMn
   have hTl : T.length ≤ 4000 := by
    rw [hT]
    have e3 : (touI c p).length ≤ (underC c (boxLo p) (boxHi p)).length := List.length_filter_le _ _
    have e4 := underC_len c (boxLo p) (boxHi p)
    omega
   have hLl' : L'.length ≤ 4000 := by
    have e2 := List.length_filter_le (fun i => !fitI c h v i) (T.take t)
    rw [List.length_take] at e2
    rw [h3]
    omega
   intro m'
   refine VRead.mk (fitsV B1 B2 B3) (cellAt (ml _ _ hB4) 9 rfl) ?_
   refine VFn.p (fits_fn c _ _ _ h v j B1 B2 B3 Mn (hS.le (hM2.trans (hM3.trans (hM4.trans ml)))) (hc.le (m4.trans ml)).cs hs hjb) ?_
   refine VIf.mk (fun e2 => ?_) (fun e2 => ?_)
   ·have hb : ((L ++ L').length + 1) * 8 ≤ 140737488355328 := by rw [List.length_append]; omega
    refine VFact.mk (by simpa using hb) ?_
    refine ⟨(L' ++ [j], Mn), ⟨⟨ml, hk1⟩, ?_⟩, Wk.mk' (fun i => if i = 2 then 4 else i) (by repeat' constructor) ?_ (injOK_b rfl) rfl rfl rfl⟩
    ·rw [htk, List.filter_append]
     simp [e2, h3]
    ·repeat' constructor
     all_goals (simp <;> omega)
   ·refine ⟨(L', Mn), ⟨⟨ml, hk1⟩, ?_⟩, (Wk.mk' id (by repeat' constructor) (by repeat' constructor) (injOK_id _) rfl rfl rfl)⟩
    rw [htk, List.filter_append]
    simp [e2, h3]
  ·rintro ⟨L', M5⟩ m' ⟨⟨h1, h2⟩, h3⟩
   rw [elen, List.take_length, hT] at h3
   refine VCode.of_vc cxOK ?_
   refine VArith.ok (by first | omega | (simp only; omega)) (by first | omega | (simp only; omega)) ?_
   refine ⟨(k + 1, L ++ L', M5), ⟨⟨hM3.trans (hM4.trans h1), hlt⟩, ?_⟩, (by first | omega | (simp only; omega)), (Wk.mk' id (by repeat' constructor) (by repeat' constructor) (injOK_id _) rfl rfl rfl)⟩
   rw [hst, ← hL, h3]; rfl
 have : k = r.length := by have := ge_of_dec hge; omega
 subst this
 rw [List.take_length] at hL
 refine VCode.st cxIOK ?_
 refine VOwn.own ?_
 refine SortI_call (l := L) rfl rfl rfl (by omega) ?_
 obtain ⟨S, hSd⟩ : ∃ S, S = L.mergeSort fun x y => decide (x ≤ y) := ⟨_, rfl⟩
 have hSl : S.length = L.length := by rw [hSd]; exact List.length_mergeSort _
 obtain ⟨ps, hps⟩ : ∃ ps : List Pt, ps = S.map fun i => (i, 0) := ⟨_, rfl⟩
 have hz : flatI ps := by
  rw [hps]
  intro p hp
  obtain ⟨i, _, rfl⟩ := List.mem_map.1 hp
  rfl
 have hcI : S.map (Value.int .i64) = cellsI ps := by rw [hps]; unfold cellsI; rw [List.map_map]; rfl
 have hpl : ps.length = L.length := by rw [hps, List.length_map, hSl]
 rw [← hSd]
 refine VCode.of_vc cxIOK ?_
 refine VOwn.own ?_
 refine VCall.wk (st1 := ⟨[], [(0, some (.row 3 1 L.length (S.map (Value.int .i64))))], 1, M3, 57, ⟨_, none, _⟩⟩) (args1 := [.row 0]) (fun _ => 2) rfl rfl trivial ⟨⟨rfl, rfl, rfl, rfl, rfl⟩, trivial⟩ (injOK_one _ _ _) rfl rfl rfl ?_
 refine CompactI_call hpl.symm hcI hz (by omega) ?_
 refine VFz.mk fun x Bx M4 hM4 hx => ?_
 refine VFact.mk ?_ trivial
 show (if _ ∧ _ then _ else _)
 rw [if_pos ⟨hs, e1⟩]
 refine ⟨x, rfl, ?_⟩
 have hcl : conL c h v r = (compactP ps).map Prod.fst := by unfold conL; rw [← hL, ← hSd, ← hps]
 rw [hcl]
 have eL : ((compactP ps).map Prod.fst).map (Value.int .i64) = cellsI (compactP ps) := by unfold cellsI; rw [List.map_map]; rfl
 refine IntsV.of (by rw [List.length_map, eL]; exact hx) (fun i hi => ?_)
 rw [← hcl] at hi
 have := conL_bd hi
 unfold i64r
 omega
end Go.Proofs.YtcdlplobniogpaaGreat
namespace Go.Proofs.YtcdlplobniogpaaGreat
open Go Go.V Go.RowKit
def in15B (n lo hi : Int) : Bool := decide (n ≥ lo) && decide (n ≤ hi)
theorem in15B_iff {n lo hi : Int} : in15B n lo hi = true ↔ lo ≤ n ∧ n ≤ hi := by simp [in15B]
theorem in15_fn (n lo hi : Int) (M : Mem) : FnP Tryz.prog 125 [.int .i64 n, .int .i64 lo, .int .i64 hi] M [.bool (in15B n lo hi)] := by
 refine Fn.of_vc cxOK Tryz.func125 rfl rfl rfl ?_
 refine VIf.mk (fun h => ?_) (fun h => ?_)
 ·repeat (first | refine VIf.tt ?_ | refine VIf.ff ?_)
  exact VFact.mk ⟨by unfold in15B; rw [h]; rfl, rfl⟩ trivial
 ·repeat (first | refine VIf.tt ?_ | refine VIf.ff ?_)
  exact VFact.mk ⟨by unfold in15B; rw [h]; rfl, rfl⟩ trivial
theorem Cell15_fn (c : CellS) (M : Mem) : FnP Tryz.prog 76 [.agg #[.int .i64 c.lo, .int .i64 c.hi, .int .i64 c.dt, .bool c.vd]] M [.bool (cellOK c)] := by
 have bad : ¬ cellP c → cellOK c = false := fun h => decide_eq_false h
 refine Fn.of_vc cxOK Tryz.func76 rfl rfl rfl ?_
 refine VFn.p (in15_fn _ _ _ _) ?_
 refine VIf.mk (fun h1 => ?_) (fun h1 => ?_)
 rotate_left
 ·repeat (first | refine VIf.tt ?_ | refine VIf.ff ?_)
  refine VFact.mk ⟨?_, rfl⟩ trivial
  rw [bad (fun h => by rw [in15B_iff.2 ⟨h.1, h.2.1⟩] at h1; cases h1)]
 have h1 := in15B_iff.1 h1
 repeat (first | refine VIf.tt ?_ | refine VIf.ff ?_)
 refine VIf.mk (fun h2 => ?_) (fun h2 => ?_)
 rotate_left
 ·have h2 := of_decide_eq_false h2
  repeat (first | refine VIf.tt ?_ | refine VIf.ff ?_)
  refine VFact.mk ⟨?_, rfl⟩ trivial
  rw [bad (fun h => by unfold cellP at h; omega)]
 have h2 := of_decide_eq_true h2
 repeat (first | refine VIf.tt ?_ | refine VIf.ff ?_)
 refine VFn.p (in15_fn _ _ _ _) ?_
 repeat (first | refine VIf.tt ?_ | refine VIf.ff ?_)
 refine VFact.mk ⟨?_, rfl⟩ trivial
 have : cellOK c = in15B c.dt 0 1000000000 := by
  rw [Bool.eq_iff_iff, in15B_iff]
  unfold cellOK
  rw [decide_eq_true_iff]
  unfold cellP
  omega
 rw [this]
theorem pl15 (p : Pt) (M : Mem) : FnP Tryz.prog 20 [ptv p] M [.bool (placeB p)] := Place_fn p.1 p.2 M
set_option maxRecDepth 20000 in
set_option maxHeartbeats 2000000 in
theorem Path15_fn (l : LinS) (v : Value) (M : Mem) (hv : Pts M v l.ps) : FnP Tryz.prog 126 [.agg #[.int .i64 l.id, v]] M [.bool (pathOK l)] := by
 obtain ⟨ad, c, rfl⟩ := hv.shape
 obtain ⟨_, hm, hrd⟩ := hv.cellsOf
 unfold maxLen at hm
 refine Fn.of_vc cxOK Tryz.func126 rfl rfl rfl ?_
 refine VFn.p (in15_fn _ _ _ _) ?_
 refine VIf.mk (fun h1 => ?_) (fun h1 => ?_)
 ·repeat (first | refine VIf.tt ?_ | refine VIf.ff ?_)
  refine VFact.mk ⟨?_, rfl⟩ trivial
  rw [pathOK_id (by
   cases hb : idOK l.id with
   | false => rfl
   | true => rw [in15B_iff.2 (idOK_iff.1 hb)] at h1; cases h1)]
 have h1 := in15B_iff.1 ((Bool.not_eq_false' _).mp h1)
 repeat (first | refine VIf.tt ?_ | refine VIf.ff ?_)
 refine VFn.p (in15_fn _ _ _ _) ?_
 repeat (first | refine VIf.tt ?_ | refine VIf.ff ?_)
 refine VIf.mk (fun h2 => ?_) (fun h2 => ?_)
 ·refine VFact.mk ⟨?_, rfl⟩ trivial
  rw [pathOK_len (fun h => by rw [in15B_iff.2 ⟨by omega, by omega⟩] at h2; cases h2)]
 have h2 := in15B_iff.1 ((Bool.not_eq_false' _).mp h2)
 have bad : ∀ i, i < l.ps.length → keepB l.ps i = false → pathOK l = false := fun i hi hk => by
  unfold pathOK; rw [all_false hi hk, Bool.and_false]
 refine VCode.loop cxOK Nat (fun i => ⟨[(1, .box 0 0), (3, .v (.int .i64 i))], [(0, some (.box 95 [.v (.int .i64 l.id), .v (.slice ad l.ps.length c)]))], 1, M, 47, ⟨fun _ => none, none, fun _ => none⟩⟩)
  (fun i => i ≤ l.ps.length ∧ ∀ j, j < i → placeB (gp l.ps j) = true ∧ keepB l.ps j = true) (fun i => l.ps.length - i) 0 ⟨Nat.zero_le _, fun j hj => absurd hj (Nat.not_lt_zero _)⟩ (Wk.mk' id (by repeat' constructor) (by repeat' constructor) (injOK_id _) rfl rfl rfl) ?_
 rintro i ⟨hi, hok⟩ m
 refine VIf.mk (fun hlt => ?_) (fun hge => ?_)
 ·have hlt := lt_of_dec hlt
  obtain ⟨ad', ead, hp⟩ := hrd M (Mem.le_refl _) i hlt
  refine VDraw.go (by kernel_rfl) ?_
  refine VIdx.mk ad' i ead rfl hlt ?_
  refine VReads.mk [.int .i64 (gp l.ps i).1, .int .i64 (gp l.ps i).2] rfl hp ?_
  refine VFn.p (pl15 (gp l.ps i) M) ?_
  refine VIf.mk (fun h3 => ?_) (fun h3 => ?_)
  ·repeat (first | refine VIf.tt ?_ | refine VIf.ff ?_)
   refine VFact.mk ⟨?_, rfl⟩ trivial
   rw [pathOK_pl (all_getD' (0, 0) placeB l.ps hlt ((Bool.not_eq_true' _).mp h3))]
  have h3 : placeB (gp l.ps i) = true := (Bool.not_eq_false' _).mp h3
  repeat (first | refine VIf.tt ?_ | refine VIf.ff ?_)
  refine VIf.mk (fun h4 => ?_) (fun h4 => ?_)
  ·have h4 : 0 < i := by have := of_decide_eq_true h4; omega
   obtain ⟨ad2, ead2, hp2⟩ := hrd M (Mem.le_refl _) (i - 1) (by omega)
   repeat (first | refine VIf.tt ?_ | refine VIf.ff ?_)
   refine VIdx.mk ad' i ead rfl hlt ?_
   repeat (first | refine VIf.tt ?_ | refine VIf.ff ?_)
   refine VReads.mk [.int .i64 (gp l.ps i).1, .int .i64 (gp l.ps i).2] rfl hp ?_
   repeat (first | refine VIf.tt ?_ | refine VIf.ff ?_)
   refine VArith.ok (by first | omega | (simp only; omega)) (by first | omega | (simp only; omega)) ?_
   repeat (first | refine VIf.tt ?_ | refine VIf.ff ?_)
   refine VIdx.mk ad2 (i - 1) ead2 (by omega) (by omega) ?_
   repeat (first | refine VIf.tt ?_ | refine VIf.ff ?_)
   refine VReads.mk [.int .i64 (gp l.ps (i - 1)).1, .int .i64 (gp l.ps (i - 1)).2] rfl hp2 ?_
   repeat (first | refine VIf.tt ?_ | refine VIf.ff ?_)
   refine VIf.mk (fun h5 => ?_) (fun h5 => ?_)
   ·refine VFact.mk ⟨?_, rfl⟩ trivial
    rw [bad i hlt (by
     simp only [eqRes, Bool.and_eq_true, beq_iff_eq] at h5
     simp only [keepB, Bool.or_eq_false_iff, beq_eq_false_iff_ne, bne_eq_false_iff_eq]
     exact ⟨by omega, Prod.ext h5.1 h5.2⟩)]
   have hk : keepB l.ps i = true := by
    simp only [eqRes, Bool.and_eq_false_iff, beq_eq_false_iff_ne] at h5
    simp only [keepB, Bool.or_eq_true, beq_iff_eq, bne_iff_ne]
    refine .inr fun e => ?_
    rw [e] at h5; simp at h5
   refine VArith.ok (by first | omega | (simp only; omega)) (by first | omega | (simp only; omega)) ?_
   refine ⟨i + 1, ⟨hlt, fun j hj => ?_⟩, (by first | omega | (simp only; omega)), (Wk.mk' id (by repeat' constructor) (by repeat' constructor) (injOK_id _) rfl rfl rfl)⟩
   by_cases e : j = i
   ·subst e; exact ⟨h3, hk⟩
   ·exact hok j (by omega)
  ·have h4 : i = 0 := by have := of_decide_eq_false h4; omega
   repeat (first | refine VIf.tt ?_ | refine VIf.ff ?_)
   refine VArith.ok (by first | omega | (simp only; omega)) (by first | omega | (simp only; omega)) ?_
   refine ⟨i + 1, ⟨hlt, fun j hj => ?_⟩, (by first | omega | (simp only; omega)), (Wk.mk' id (by repeat' constructor) (by repeat' constructor) (injOK_id _) rfl rfl rfl)⟩
   have : j = i := by omega
   subst this
   exact ⟨h3, by rw [h4]; rfl⟩
 ·have : i = l.ps.length := by have := ge_of_dec hge; omega
  subst this
  refine VFact.mk ⟨?_, rfl⟩ trivial
  have : pathOK l = true := by
   unfold pathOK
   rw [idOK_iff.2 h1, decide_eq_true (by omega), all_getD (0, 0) placeB l.ps (fun i hi => (hok i hi).1), all_true (fun i hi => (hok i hi).2)]
   rfl
  rw [this]
end Go.Proofs.YtcdlplobniogpaaGreat
namespace Go.Proofs.YtcdlplobniogpaaGreat
open Go Go.V Go.RowKit
theorem hp1 {M : Mem} (ad : Addr) {x y z : Value} {n : Nat} (hp : ∀ (j : Nat) (u : Value), [x, y, z][j]? = some u → M.cell ((ad.add n).add j) = some u) : ∀ (j : Nat) (u : Value), [y, z][j]? = some u → M.cell (((ad.add n).add 1).add j) = some u := fun j u hj => by
 rw [Addr.add_add]
 rw [show 1 + j = j + 1 by omega]
 exact hp (j + 1) u (by simpa using hj)
set_option maxRecDepth 20000 in
set_option maxHeartbeats 2000000 in
theorem beacons15_fn (v : Value) (l : List BeaS) (M : Mem) (hv : BeasV M v l) : FnP Tryz.prog 74 [v] M [.bool (beasOK l)] := by
 obtain ⟨ad, c, rfl, hm, hrd⟩ := hv.get
 refine Fn.of_vc cxOK Tryz.func74 rfl rfl rfl ?_
 refine VIf.mk (fun h1 => ?_) (fun h1 => ?_)
 ·have h1 := of_decide_eq_true h1
  refine VFact.mk ⟨?_, rfl⟩ trivial
  have : beasOK l = false := by unfold beasOK; rw [decide_eq_false (show ¬ l.length ≤ 100 by omega), Bool.and_false]
  rw [this]
 have h1 := of_decide_eq_false h1
 have bad : ∀ i, i < l.length → (beaOK (gbe l i) = false ∨ ∃ j, j < i ∧ (gbe l j).id = (gbe l i).id) → beasOK l = false := fun i hi h => by
  unfold beasOK; rw [nmdB_bad hi h, Bool.false_and]
 refine VCode.loop cxOK Nat (fun i => ⟨[(0, .v (.slice ad l.length c)), (3, .v (.int .i64 i))], [], 0, M, 46, ⟨fun _ => none, none, fun _ => none⟩⟩)
  (fun i => i ≤ l.length ∧ ∀ j, j < i → beaOK (gbe l j) = true ∧ ∀ k, k < j → (gbe l k).id ≠ (gbe l j).id) (fun i => l.length - i) 0 ⟨Nat.zero_le _, fun j hj => absurd hj (Nat.not_lt_zero _)⟩ (Wk.mk' id (by repeat' constructor) (by repeat' constructor) (injOK_id _) rfl rfl rfl) ?_
 rintro i ⟨hi, hok⟩ m
 refine VIf.mk (fun hlt => ?_) (fun hge => ?_)
 rotate_left
 ·have : i = l.length := by have := ge_of_dec hge; omega
  subst this
  refine VFact.mk ⟨?_, rfl⟩ trivial
  have : beasOK l = true := by unfold beasOK; rw [nmdB_iff.2 hok, decide_eq_true (by omega)]; rfl
  rw [this]
 have hlt := lt_of_dec hlt
 obtain ⟨ad', ead, _, hp⟩ := hrd M (Mem.le_refl _) i hlt
 refine VIdx.mk ad' i ead rfl hlt ?_
 refine VRead.mk (.int .i64 (gbe l i).id) (hp 0 _ rfl) ?_
 refine VFn.p (in15_fn _ _ _ _) ?_
 refine VIf.mk (fun h2 => ?_) (fun h2 => ?_)
 ·repeat (first | refine VIf.tt ?_ | refine VIf.ff ?_)
  refine VFact.mk ⟨?_, rfl⟩ trivial
  rw [bad i hlt (.inl (by
   unfold beaOK
   cases hb : idOK (gbe l i).id with
   | false => rfl
   | true => rw [in15B_iff.2 (idOK_iff.1 hb)] at h2; cases h2))]
 have h2 := in15B_iff.1 ((Bool.not_eq_false' _).mp h2)
 repeat (first | refine VIf.tt ?_ | refine VIf.ff ?_)
 refine VIdx.mk ad' i ead rfl hlt ?_
 repeat (first | refine VIf.tt ?_ | refine VIf.ff ?_)
 refine VReads.mk [.int .i64 (gbe l i).x, .int .i64 (gbe l i).y] rfl (fun j u hj => hp1 ad' hp j u hj) ?_
 repeat (first | refine VIf.tt ?_ | refine VIf.ff ?_)
 refine VFn.p (pl15 ((gbe l i).x, (gbe l i).y) M) ?_
 repeat (first | refine VIf.tt ?_ | refine VIf.ff ?_)
 refine VIf.mk (fun h3 => ?_) (fun h3 => ?_)
 ·refine VFact.mk ⟨?_, rfl⟩ trivial
  rw [bad i hlt (.inl (by unfold beaOK; rw [(Bool.not_eq_true' _).mp h3, Bool.and_false]))]
 have hR : beaOK (gbe l i) = true := by unfold beaOK; rw [idOK_iff.2 h2, (Bool.not_eq_false' _).mp h3]; rfl
 refine VCode.loop cxOK Nat (fun k => ⟨[(0, .v (.slice ad l.length c)), (3, .v (.int .i64 i)), (4, .v (.int .i64 k))], [], 0, M, 46, ⟨fun _ => none, none, fun _ => none⟩⟩)
  (fun k => k ≤ i ∧ ∀ j, j < k → (gbe l j).id ≠ (gbe l i).id) (fun k => i - k) 0 ⟨Nat.zero_le _, fun j hj => absurd hj (Nat.not_lt_zero _)⟩ (Wk.mk' id (by repeat' constructor) (by repeat' constructor) (injOK_id _) rfl rfl rfl) ?_
 rintro k ⟨hk, hne⟩ mm
 refine VIf.mk (fun hlk => ?_) (fun hgk => ?_)
 rotate_left
 ·have : k = i := by have := of_decide_eq_false hgk; omega
  subst this
  refine VArith.ok (by first | omega | (simp only; omega)) (by first | omega | (simp only; omega)) ?_
  refine ⟨k + 1, ⟨hlt, fun j hj => ?_⟩, (by first | omega | (simp only; omega)), (Wk.mk' id (by repeat' constructor) (by repeat' constructor) (injOK_id _) rfl rfl rfl)⟩
  by_cases e : j = k
  ·subst e; exact ⟨hR, hne⟩
  ·exact hok j (by omega)
 have hlk : k < i := by have := of_decide_eq_true hlk; omega
 obtain ⟨a2, e2, _, p2⟩ := hrd M (Mem.le_refl _) k (by omega)
 refine VDraw.go (by kernel_rfl) ?_
 refine VIdx.mk a2 k e2 rfl (by omega) ?_
 refine VRead.mk (.int .i64 (gbe l k).id) (p2 0 _ rfl) ?_
 refine VIdx.mk ad' i ead rfl hlt ?_
 refine VRead.mk (.int .i64 (gbe l i).id) (hp 0 _ rfl) ?_
 refine VIf.mk (fun h5 => ?_) (fun h5 => ?_)
 ·refine VFact.mk ⟨?_, rfl⟩ trivial
  rw [bad i hlt (.inr ⟨k, hlk, by simpa using h5⟩)]
 ·refine VArith.ok (by first | omega | (simp only; omega)) (by first | omega | (simp only; omega)) ?_
  refine ⟨k + 1, ⟨hlk, fun j hj => ?_⟩, (by first | omega | (simp only; omega)), (Wk.mk' id (by repeat' constructor) (by repeat' constructor) (injOK_id _) rfl rfl rfl)⟩
  by_cases e : j = k
  ·subst e; simpa using h5
  ·exact hne j (by omega)
set_option maxRecDepth 20000 in
set_option maxHeartbeats 2000000 in
theorem lines15_fn (v : Value) (l : List LinS) (M : Mem) (hv : LinsV M v l) : FnP Tryz.prog 75 [v] M [.bool (linsOK l)] := by
 obtain ⟨ad, c, rfl, hm, hrd⟩ := hv.get
 refine Fn.of_vc cxOK Tryz.func75 rfl rfl rfl ?_
 refine VIf.mk (fun h1 => ?_) (fun h1 => ?_)
 ·have h1 := of_decide_eq_true h1
  refine VFact.mk ⟨?_, rfl⟩ trivial
  have : linsOK l = false := by unfold linsOK; rw [decide_eq_false (show ¬ l.length ≤ 50 by omega), Bool.and_false]
  rw [this]
 have h1 := of_decide_eq_false h1
 have bad : ∀ i, i < l.length → (pathOK (gli l i) = false ∨ ∃ j, j < i ∧ (gli l j).id = (gli l i).id) → linsOK l = false := fun i hi h => by
  unfold linsOK; rw [nmdB_bad hi h, Bool.false_and]
 refine VCode.loop cxOK Nat (fun i => ⟨[(0, .v (.slice ad l.length c)), (3, .v (.int .i64 i))], [], 0, M, 36, ⟨fun _ => none, none, fun _ => none⟩⟩)
  (fun i => i ≤ l.length ∧ ∀ j, j < i → pathOK (gli l j) = true ∧ ∀ k, k < j → (gli l k).id ≠ (gli l j).id) (fun i => l.length - i) 0 ⟨Nat.zero_le _, fun j hj => absurd hj (Nat.not_lt_zero _)⟩ (Wk.mk' id (by repeat' constructor) (by repeat' constructor) (injOK_id _) rfl rfl rfl) ?_
 rintro i ⟨hi, hok⟩ m
 refine VIf.mk (fun hlt => ?_) (fun hge => ?_)
 rotate_left
 ·have : i = l.length := by have := ge_of_dec hge; omega
  subst this
  refine VFact.mk ⟨?_, rfl⟩ trivial
  have : linsOK l = true := by unfold linsOK; rw [nmdB_iff.2 hok, decide_eq_true (by omega)]; rfl
  rw [this]
 have hlt := lt_of_dec hlt
 obtain ⟨ad', w, ead, _, hpt, hp64, hp⟩ := hrd M (Mem.le_refl _) i hlt
 have hP := Path15_fn (gli l i) w M hpt
 obtain ⟨wa, wc, rfl⟩ := hpt.shape
 refine VIdx.mk ad' i ead rfl hlt ?_
 refine VReads.mk [.int .i64 (gli l i).id, .slice wa (gli l i).ps.length wc] rfl hp ?_
 refine VFn.p hP ?_
 refine VIf.mk (fun h3 => ?_) (fun h3 => ?_)
 ·refine VFact.mk ⟨?_, rfl⟩ trivial
  rw [bad i hlt (.inl ((Bool.not_eq_true' _).mp h3))]
 have hR : pathOK (gli l i) = true := (Bool.not_eq_false' _).mp h3
 refine VCode.loop cxOK Nat (fun k => ⟨[(0, .v (.slice ad l.length c)), (3, .v (.int .i64 i)), (4, .v (.int .i64 k))], [], 0, M, 36, ⟨fun _ => none, none, fun _ => none⟩⟩)
  (fun k => k ≤ i ∧ ∀ j, j < k → (gli l j).id ≠ (gli l i).id) (fun k => i - k) 0 ⟨Nat.zero_le _, fun j hj => absurd hj (Nat.not_lt_zero _)⟩ (Wk.mk' id (by repeat' constructor) (by repeat' constructor) (injOK_id _) rfl rfl rfl) ?_
 rintro k ⟨hk, hne⟩ mm
 refine VIf.mk (fun hlk => ?_) (fun hgk => ?_)
 rotate_left
 ·have : k = i := by have := of_decide_eq_false hgk; omega
  subst this
  refine VArith.ok (by first | omega | (simp only; omega)) (by first | omega | (simp only; omega)) ?_
  refine ⟨k + 1, ⟨hlt, fun j hj => ?_⟩, (by first | omega | (simp only; omega)), (Wk.mk' id (by repeat' constructor) (by repeat' constructor) (injOK_id _) rfl rfl rfl)⟩
  by_cases e : j = k
  ·subst e; exact ⟨hR, hne⟩
  ·exact hok j (by omega)
 have hlk : k < i := by have := of_decide_eq_true hlk; omega
 obtain ⟨a2, _, e2, _, _, _, p2⟩ := hrd M (Mem.le_refl _) k (by omega)
 refine VDraw.go (by kernel_rfl) ?_
 refine VIdx.mk a2 k e2 rfl (by omega) ?_
 refine VRead.mk (.int .i64 (gli l k).id) (p2 0 _ rfl) ?_
 refine VIdx.mk ad' i ead rfl hlt ?_
 refine VRead.mk (.int .i64 (gli l i).id) (hp 0 _ rfl) ?_
 refine VIf.mk (fun h5 => ?_) (fun h5 => ?_)
 ·refine VFact.mk ⟨?_, rfl⟩ trivial
  rw [bad i hlt (.inr ⟨k, hlk, by simpa using h5⟩)]
 ·refine VArith.ok (by first | omega | (simp only; omega)) (by first | omega | (simp only; omega)) ?_
  refine ⟨k + 1, ⟨hlk, fun j hj => ?_⟩, (by first | omega | (simp only; omega)), (Wk.mk' id (by repeat' constructor) (by repeat' constructor) (injOK_id _) rfl rfl rfl)⟩
  by_cases e : j = k
  ·subst e; simpa using h5
  ·exact hne j (by omega)
set_option maxRecDepth 20000 in
set_option maxHeartbeats 2000000 in
theorem frame15_fn (c : ChartS) (a b d : Value) (M : Mem) (h : Cha M c a b d) : FnP Tryz.prog 73 [chV c a b d] M [.bool (decide (frameC c))] := by
 obtain ⟨⟨ad, ka, rfl⟩, ⟨bd, kb, rfl⟩, dd, kd, rfl⟩ := h.shape
 have bad : ¬ frameC c → decide (frameC c) = false := fun h => decide_eq_false h
 have hcl : c.cs.length ≤ 9223372036854775807 := by obtain ⟨_, _, _, q, _⟩ := h.cs.get; exact q
 refine Fn.of_vc cxOK Tryz.func73 rfl rfl rfl ?_
 refine VFn.p (in15_fn _ _ _ _) ?_
 refine VIf.mk (fun h1 => ?_) (fun h1 => ?_)
 ·repeat (first | refine VIf.tt ?_ | refine VIf.ff ?_)
  refine VFact.mk ⟨?_, rfl⟩ trivial
  rw [bad (fun h => by rw [in15B_iff.2 (by unfold frameC at h; omega)] at h1; cases h1)]
 have h1 := in15B_iff.1 ((Bool.not_eq_false' _).mp h1)
 repeat (first | refine VIf.tt ?_ | refine VIf.ff ?_)
 refine VFn.p (in15_fn _ _ _ _) ?_
 repeat (first | refine VIf.tt ?_ | refine VIf.ff ?_)
 refine VIf.mk (fun h2 => ?_) (fun h2 => ?_)
 ·repeat (first | refine VIf.tt ?_ | refine VIf.ff ?_)
  refine VFact.mk ⟨?_, rfl⟩ trivial
  rw [bad (fun h => by rw [in15B_iff.2 (by unfold frameC at h; omega)] at h2; cases h2)]
 have h2 := in15B_iff.1 ((Bool.not_eq_false' _).mp h2)
 repeat (first | refine VIf.tt ?_ | refine VIf.ff ?_)
 refine VFn.p (in15_fn _ _ _ _) ?_
 repeat (first | refine VIf.tt ?_ | refine VIf.ff ?_)
 refine VIf.mk (fun h3 => ?_) (fun h3 => ?_)
 ·repeat (first | refine VIf.tt ?_ | refine VIf.ff ?_)
  refine VFact.mk ⟨?_, rfl⟩ trivial
  rw [bad (fun h => by rw [in15B_iff.2 (by unfold frameC at h; omega)] at h3; cases h3)]
 have h3 := in15B_iff.1 ((Bool.not_eq_false' _).mp h3)
 repeat (first | refine VIf.tt ?_ | refine VIf.ff ?_)
 refine VFn.p (in15_fn _ _ _ _) ?_
 repeat (first | refine VIf.tt ?_ | refine VIf.ff ?_)
 refine VIf.mk (fun h4 => ?_) (fun h4 => ?_)
 ·refine VFact.mk ⟨?_, rfl⟩ trivial
  rw [bad (fun h => by rw [in15B_iff.2 (by unfold frameC at h; omega)] at h4; cases h4)]
 have h4 := in15B_iff.1 ((Bool.not_eq_false' _).mp h4)
 have hwh := mulb (a := c.w) (b := c.h) 4000 4000 (by omega) (by omega)
 refine VArith.ok (by first | omega | (simp only; omega)) (by first | omega | (simp only; omega)) ?_
 refine VIf.mk (fun h5 => ?_) (fun h5 => ?_)
 ·have e : c.w * c.h ≠ c.cs.length := fun e => by simp [e] at h5
  repeat (first | refine VIf.tt ?_ | refine VIf.ff ?_)
  refine VFact.mk ⟨?_, rfl⟩ trivial
  rw [bad (fun h => by unfold frameC at h; omega)]
 have h5 : c.w * c.h = c.cs.length := by simpa using h5
 repeat (first | refine VIf.tt ?_ | refine VIf.ff ?_)
 refine VArith.ok (by first | omega | (simp only; omega)) (by first | omega | (simp only; omega)) ?_
 repeat (first | refine VIf.tt ?_ | refine VIf.ff ?_)
 refine VIf.mk (fun h6 => ?_) (fun h6 => ?_)
 ·have h6 := of_decide_eq_true h6
  repeat (first | refine VIf.tt ?_ | refine VIf.ff ?_)
  refine VFact.mk ⟨?_, rfl⟩ trivial
  rw [bad (fun h => by unfold frameC at h; omega)]
 have h6 := of_decide_eq_false h6
 repeat (first | refine VIf.tt ?_ | refine VIf.ff ?_)
 refine VFn.p (pl15 (c.x, c.y) M) ?_
 repeat (first | refine VIf.tt ?_ | refine VIf.ff ?_)
 refine VIf.mk (fun h7 => ?_) (fun h7 => ?_)
 ·refine VFact.mk ⟨?_, rfl⟩ trivial
  rw [bad (fun h => by rw [h.2.1] at h7; cases h7)]
 have h7 : placeB (c.x, c.y) = true := (Bool.not_eq_false' _).mp h7
 have b := place_bd h7
 simp only at b
 have hws := mulb (a := c.w) (b := c.sz) 4000 10000 (by omega) (by omega)
 have hhs := mulb (a := c.h) (b := c.sz) 4000 10000 (by omega) (by omega)
 refine VArith.ok (by first | omega | (simp only; omega)) (by first | omega | (simp only; omega)) ?_
 refine VArith.ok (by first | omega | (simp only; omega)) (by first | omega | (simp only; omega)) ?_
 refine VArith.ok (by first | omega | (simp only; omega)) (by first | omega | (simp only; omega)) ?_
 refine VArith.ok (by first | omega | (simp only; omega)) (by first | omega | (simp only; omega)) ?_
 refine VArith.ok (by first | omega | (simp only; omega)) (by first | omega | (simp only; omega)) ?_
 refine VArith.ok (by first | omega | (simp only; omega)) (by first | omega | (simp only; omega)) ?_
 refine VFn.p (pl15 (c.x + c.w * c.sz - 1, c.y + c.h * c.sz - 1) M) ?_
 refine VFact.mk ⟨?_, rfl⟩ trivial
 have : decide (frameC c) = placeB (c.x + c.w * c.sz - 1, c.y + c.h * c.sz - 1) := by
  rw [Bool.eq_iff_iff, decide_eq_true_iff]
  exact ⟨fun h => h.2.2, fun h => ⟨by omega, h7, h⟩⟩
 rw [this]
set_option maxRecDepth 20000 in
set_option maxHeartbeats 2000000 in
theorem Valid15_fn (c : ChartS) (a b d : Value) (M : Mem) (h : Cha M c a b d) : FnP Tryz.prog 45 [chV c a b d] M [.bool (validC c)] := by
 have hFr := frame15_fn c a b d M h
 have hBe := beacons15_fn b c.bs M h.bs
 have hLi := lines15_fn d c.ls M h.ls
 obtain ⟨ad, ka, ea, hm, hrd⟩ := h.cs.get
 obtain ⟨_, ⟨bd, kb, eb⟩, dd, kd, ed⟩ := h.shape
 subst ea; subst eb; subst ed
 refine Fn.of_vc cxOK Tryz.func45 rfl rfl rfl ?_
 refine VFn.p hFr ?_
 refine VIf.mk (fun h1 => ?_) (fun h1 => ?_)
 ·repeat (first | refine VIf.tt ?_ | refine VIf.ff ?_)
  refine VFact.mk ⟨?_, rfl⟩ trivial
  unfold validC; rw [(Bool.not_eq_true' _).mp h1]; rfl
 have h1 := (Bool.not_eq_false' _).mp h1
 repeat (first | refine VIf.tt ?_ | refine VIf.ff ?_)
 refine VFn.p hBe ?_
 repeat (first | refine VIf.tt ?_ | refine VIf.ff ?_)
 refine VIf.mk (fun h2 => ?_) (fun h2 => ?_)
 ·repeat (first | refine VIf.tt ?_ | refine VIf.ff ?_)
  refine VFact.mk ⟨?_, rfl⟩ trivial
  unfold validC; rw [(Bool.not_eq_true' _).mp h2, Bool.and_false]; rfl
 have h2 := (Bool.not_eq_false' _).mp h2
 repeat (first | refine VIf.tt ?_ | refine VIf.ff ?_)
 refine VFn.p hLi ?_
 repeat (first | refine VIf.tt ?_ | refine VIf.ff ?_)
 refine VIf.mk (fun h3 => ?_) (fun h3 => ?_)
 ·refine VFact.mk ⟨?_, rfl⟩ trivial
  unfold validC; rw [(Bool.not_eq_true' _).mp h3, Bool.and_false]
 have h3 := (Bool.not_eq_false' _).mp h3
 have hE : validC c = c.cs.all cellOK := by unfold validC; rw [h1, h2, h3, Bool.true_and, Bool.and_true, Bool.and_true]
 rw [hE]
 refine VCode.loop cxOK Nat (fun i => ⟨[(1, .box 0 0), (3, .v (.int .i64 i))], [(0, some (.box 26 (chSV c (.slice ad c.cs.length ka) (.slice bd c.bs.length kb) (.slice dd c.ls.length kd))))], 1, M, 33, ⟨fun _ => none, none, fun _ => none⟩⟩)
  (fun i => i ≤ c.cs.length ∧ ∀ j, j < i → cellOK (gce c.cs j) = true) (fun i => c.cs.length - i) 0 ⟨Nat.zero_le _, fun j hj => absurd hj (Nat.not_lt_zero _)⟩ (Wk.mk' id (by repeat' constructor) (by repeat' constructor) (injOK_id _) rfl rfl rfl) ?_
 rintro i ⟨hi, hok⟩ m
 refine VIf.mk (fun hlt => ?_) (fun hge => ?_)
 ·have hlt := lt_of_dec hlt
  obtain ⟨ad', ead, _, hp⟩ := hrd M (Mem.le_refl _) i hlt
  refine VIdx.mk ad' i ead rfl hlt ?_
  refine VReads.mk [.int .i64 (gce c.cs i).lo, .int .i64 (gce c.cs i).hi, .int .i64 (gce c.cs i).dt, .bool (gce c.cs i).vd] rfl hp ?_
  refine VFn.p (Cell15_fn (gce c.cs i) M) ?_
  refine VIf.mk (fun h4 => ?_) (fun h4 => ?_)
  ·refine VFact.mk ⟨?_, rfl⟩ trivial
   rw [all_getD' cell0 cellOK c.cs hlt ((Bool.not_eq_true' _).mp h4)]
  refine VArith.ok (by first | omega | (simp only; omega)) (by first | omega | (simp only; omega)) ?_
  refine ⟨i + 1, ⟨hlt, fun j hj => ?_⟩, (by first | omega | (simp only; omega)), (Wk.mk' id (by repeat' constructor) (by repeat' constructor) (injOK_id _) rfl rfl rfl)⟩
  by_cases e : j = i
  ·subst e; exact (Bool.not_eq_false' _).mp h4
  ·exact hok j (by omega)
 ·have : i = c.cs.length := by have := ge_of_dec hge; omega
  subst this
  refine VFact.mk ⟨?_, rfl⟩ trivial
  rw [all_getD cell0 cellOK c.cs hok]
end Go.Proofs.YtcdlplobniogpaaGreat
namespace Go.Proofs.YtcdlplobniogpaaGreat
open Go Go.V Go.RowKit
set_option maxRecDepth 20000 in
set_option maxHeartbeats 2000000 in
theorem Bounds15_fn (c : ChartS) (a b d : Value) (i : Int) (M : Mem) (h : Cha M c a b d) (hF : frameC c) (hi : 0 ≤ i ∧ i < c.cs.length) : V.Fn Tryz.prog 48 [chV c a b d, .int .i64 i] M fun rs _ => rs = [ptv (bLo c i), ptv (bHi c i)] := by
 obtain ⟨⟨ad, ka, rfl⟩, ⟨bd, kb, rfl⟩, dd, kd, rfl⟩ := h.shape
 obtain ⟨⟨m1, m2⟩, p1, p2⟩ := sq_bd hF hi
 have q1 := place_bd p1
 have b2 := place_bd hF.2.1
 simp only at b2
 have q1' : -500000 ≤ c.x + i.tmod c.w * c.sz ∧ c.x + i.tmod c.w * c.sz ≤ 500000 ∧ -500000 ≤ c.y + i.tdiv c.w * c.sz ∧ c.y + i.tdiv c.w * c.sz ≤ 500000 := q1
 have cl := hF.1
 obtain ⟨t1, t2, t3, t4⟩ := encode hi.1 (show 0 < c.w by omega)
 have hdv : i.tdiv c.w ≤ 4000 := by
  rw [Int.tdiv_eq_ediv_of_nonneg hi.1]
  exact Int.le_trans (Int.ediv_le_self _ hi.1) (by omega)
 refine Fn.of_vc cxOK Tryz.func48 rfl rfl rfl ?_
 refine VDraw.go (by kernel_rfl) ?_
 refine VDiv.mk (by omega) ?_
 refine VArith.ok (by first | omega | (simp only; omega)) (by first | omega | (simp only; omega)) ?_
 refine VArith.ok (by first | omega | (simp only; omega)) (by first | omega | (simp only; omega)) ?_
 refine VDiv.mk (by omega) ?_
 refine VArith.ok (by first | omega | (simp only; omega)) (by first | omega | (simp only; omega)) ?_
 refine VArith.ok (by first | omega | (simp only; omega)) (by first | omega | (simp only; omega)) ?_
 refine VArith.ok (by first | omega | (simp only; omega)) (by first | omega | (simp only; omega)) ?_
 refine VDraw.code ?_
 refine VCode.draws cxOK [2, 6] (by kernel_rfl) Mem
  (fun M2 => ⟨[(4, .box 1 0), (5, .box 2 0)], [(2, some (.box 44 [.v (.int .i64 (bHi c i).1), .v (.int .i64 (bHi c i).2)])), (1, some (.box 44 [.v (.int .i64 (bLo c i).1), .v (.int .i64 (bLo c i).2)]))], 4, M2, 42, ⟨fun _ => none, none, fun _ => none⟩⟩)
  (fun _ => True) ?_ ?_
 ·refine VFzB.mk fun z1 B1 M1 hM1 hB1 => ?_
  refine VFzB.mk fun z2 B2 M2 hM2 hB2 => ?_
  have hB1 : M1 B1 = some (.cells (chC c (.slice ad c.cs.length ka) (.slice bd c.bs.length kb) (.slice dd c.ls.length kd)) 26 (0, 0)) := hB1
  have hB2 : M2 B2 = some (.cells #[.int .i64 (c.x + i.tmod c.w * c.sz), .int .i64 (c.y + i.tdiv c.w * c.sz)] 44 (0, 0)) := hB2
  have hB1' := hM2 _ _ hB1
  refine VReads.mk [.int .i64 (c.x + i.tmod c.w * c.sz), .int .i64 (c.y + i.tdiv c.w * c.sz)] rfl (fun j u hj => cellAt hB2 j (by simpa using hj)) ?_
  refine VRead.mk (.int .i64 (c.x + i.tmod c.w * c.sz)) (cellAt hB2 0 rfl) ?_
  refine VRead.mk (.int .i64 c.sz) (cellAt hB1' 5 rfl) ?_
  refine VArith.ok (by first | omega | (simp only; omega)) (by first | omega | (simp only; omega)) ?_
  refine VArith.ok (by first | omega | (simp only; omega)) (by first | omega | (simp only; omega)) ?_
  refine VRead.mk (.int .i64 (c.y + i.tdiv c.w * c.sz)) (cellAt hB2 1 rfl) ?_
  refine VRead.mk (.int .i64 c.sz) (cellAt hB1' 5 rfl) ?_
  refine VArith.ok (by first | omega | (simp only; omega)) (by first | omega | (simp only; omega)) ?_
  refine VArith.ok (by first | omega | (simp only; omega)) (by first | omega | (simp only; omega)) ?_
  have hc := Mem.le_refl M2
  refine VFact.mk hc ?_
  refine VFact.mk hc ?_
  exact ⟨M2, trivial, (Wk.mk' id (by repeat' constructor) (by repeat' constructor) (injOK_id _) rfl rfl rfl)⟩
 ·rintro M2 m _
  exact VFact.mk rfl trivial
theorem Meet15_fn (lo hi low high : Pt) (M : Mem) : FnP Tryz.prog 49 [ptv lo, ptv hi, ptv low, ptv high] M [.bool (meetsP lo hi low high)] := by
 refine Fn.of_vc cxOK Tryz.func49 rfl rfl rfl ?_
 refine VIf.mk (fun h1 => ?_) (fun h1 => ?_)
 rotate_left
 ·repeat (first | refine VIf.tt ?_ | refine VIf.ff ?_)
  exact VFact.mk ⟨by unfold meetsP; rw [h1]; rfl, rfl⟩ trivial
 repeat (first | refine VIf.tt ?_ | refine VIf.ff ?_)
 refine VIf.mk (fun h2 => ?_) (fun h2 => ?_)
 rotate_left
 ·repeat (first | refine VIf.tt ?_ | refine VIf.ff ?_)
  exact VFact.mk ⟨by unfold meetsP; rw [h2, Bool.and_false]; rfl, rfl⟩ trivial
 repeat (first | refine VIf.tt ?_ | refine VIf.ff ?_)
 refine VIf.mk (fun h3 => ?_) (fun h3 => ?_)
 rotate_left
 ·repeat (first | refine VIf.tt ?_ | refine VIf.ff ?_)
  exact VFact.mk ⟨by unfold meetsP; rw [h3, Bool.and_false]; rfl, rfl⟩ trivial
 repeat (first | refine VIf.tt ?_ | refine VIf.ff ?_)
 exact VFact.mk ⟨by unfold meetsP; rw [h1, h2, h3]; rfl, rfl⟩ trivial
theorem unC_succ (c : ChartS) (lo hi : Pt) (k : Nat) : unC c lo hi (k + 1) = if meetsP lo hi (bLo c k) (bHi c k) = true then unC c lo hi k ++ [(k : Int)] else unC c lo hi k := by
 unfold unC
 rw [List.range_succ, List.filter_append, List.map_append]
 by_cases h : meetsP lo hi (bLo c k) (bHi c k) = true <;> simp [h]
theorem unC_len (c : ChartS) (lo hi : Pt) (k : Nat) : (unC c lo hi k).length ≤ k := by
 unfold unC
 rw [List.length_map]
 exact Nat.le_trans (List.length_filter_le _ _) (by rw [List.length_range]; exact Nat.le_refl _)
set_option maxRecDepth 20000 in
set_option maxHeartbeats 2000000 in
theorem Under15_fn (c : ChartS) (a b d : Value) (lo hi : Pt) (M : Mem) (h : Cha M c a b d) (hF : frameC c) : V.Fn Tryz.prog 114 [chV c a b d, ptv lo, ptv hi] M fun rs M' => ∃ u, rs = [u] ∧ IntsV M' u (underC c lo hi) := by
 have hB := fun M' (hM : M.le M') i hi => Bounds15_fn c a b d i M' (h.le hM) hF hi
 obtain ⟨⟨ad, ka, ea⟩, ⟨bd, kb, eb⟩, dd, kd, ed⟩ := h.shape
 subst ea; subst eb; subst ed
 have cl := hF.1.2.2.2.2.1
 refine Fn.of_vc cxOK Tryz.func114 rfl rfl rfl ?_
 refine VCode.loop cxOK (Nat × List Int × Mem) (fun (⟨k, us, M1⟩ : Nat × List Int × Mem) => ⟨[(3, .box 0 0), (4, .box 1 0), (5, .box 2 0), (7, .row 3), (8, .v (.int .i64 k))], [(0, some (.box 26 (chSV c (.slice ad c.cs.length ka) (.slice bd c.bs.length kb) (.slice dd c.ls.length kd)))), (1, some (.box 44 [.v (.int .i64 lo.1), .v (.int .i64 lo.2)])), (2, some (.box 44 [.v (.int .i64 hi.1), .v (.int .i64 hi.2)])), (3, some (.row 3 1 us.length (us.map (Value.int .i64))))], 4, M1, 34, ⟨fun _ => none, none, fun _ => none⟩⟩)
  (fun (⟨k, us, M1⟩ : Nat × List Int × Mem) => (M.le M1 ∧ k ≤ c.cs.length) ∧ us = unC c lo hi k) (fun (⟨k, _, _⟩ : Nat × List Int × Mem) => c.cs.length - k) (0, [], M) ⟨⟨Mem.le_refl _, Nat.zero_le _⟩, rfl⟩ ?_ ?_
 ·exact Wk.nil 7 3 1 rfl (Wk.mk' id (by repeat' constructor) (by repeat' constructor) (injOK_id _) rfl rfl rfl)
 rintro ⟨k, us, M1⟩ ⟨⟨hM1, hk⟩, hus⟩ m
 have hul : us.length ≤ k := by rw [hus]; exact unC_len c lo hi k
 refine VIf.mk (fun hlt => ?_) (fun hge => ?_)
 rotate_left
 ·have : k = c.cs.length := by have := ge_of_dec hge; omega
  subst this
  have eu : underC c lo hi = us := hus.symm
  refine VFz.mk fun x B M2 hM2 hx => ?_
  refine VFact.mk (show ∃ u, _ = _ ∧ _ from ⟨x, rfl, ?_⟩) trivial
  rw [eu]
  exact IntsV.of hx (by rw [← eu]; exact underC_64 cl)
 have hlt : k < c.cs.length := lt_of_dec hlt
 refine VFn.mk _ (hB M1 hM1 (k : Int) ⟨by omega, by omega⟩) ?_
 rintro rs M2 hM2 rfl
 refine VFn.p (Meet15_fn lo hi (bLo c k) (bHi c k) M2) ?_
 have hs := unC_succ c lo hi k
 rw [← hus] at hs
 refine VIf.mk (fun hm => ?_) (fun hm => ?_)
 ·rw [if_pos hm] at hs
  have hb : (us.length + 1) * 8 ≤ 140737488355328 := by omega
  refine VFact.mk hb ?_
  refine VArith.ok (by first | omega | (simp only; omega)) (by first | omega | (simp only; omega)) ?_
  refine ⟨(k + 1, us ++ [(k : Int)], M2), ⟨⟨hM1.trans hM2, hlt⟩, hs.symm⟩, (by first | omega | (simp only; omega)), Wk.mk' (fun i => if i = 3 then 7 else i) (by repeat' constructor) ⟨⟨rfl, by repeat' constructor⟩, ⟨rfl, by repeat' constructor⟩, ⟨rfl, by repeat' constructor⟩, ⟨rfl, ⟨rfl, rfl, ?_, ?_⟩⟩, trivial⟩ (by simp [injOK]) rfl rfl rfl⟩
  ·rw [List.length_append]; rfl
  ·rw [List.map_append]; rfl
 ·rw [if_neg (by rw [hm]; decide)] at hs
  refine VArith.ok (by first | omega | (simp only; omega)) (by first | omega | (simp only; omega)) ?_
  exact ⟨(k + 1, us, M2), ⟨⟨hM1.trans hM2, hlt⟩, hs.symm⟩, (by first | omega | (simp only; omega)), (Wk.mk' id (by repeat' constructor) (by repeat' constructor) (injOK_id _) rfl rfl rfl)⟩
end Go.Proofs.YtcdlplobniogpaaGreat
namespace Go.Proofs.YtcdlplobniogpaaGreat
open Go
theorem meetsP_iff {lo hi low high : Pt} : meetsP lo hi low high = true ↔ (lo.1 ≤ high.1 ∧ low.1 ≤ hi.1) ∧ lo.2 ≤ high.2 ∧ low.2 ≤ hi.2 := by
 unfold meetsP
 simp only [Bool.and_eq_true, decide_eq_true_eq]
 omega
def sqIn (c : ChartS) (i : Int) (p : Pt) : Prop := ((bLo c i).1 ≤ p.1 ∧ p.1 ≤ (bHi c i).1) ∧ (bLo c i).2 ≤ p.2 ∧ p.2 ≤ (bHi c i).2
theorem sq_col {c : ChartS} (hF : frameC c) {i : Int} (hi : 0 ≤ i) {p : Pt} : sqIn c i p ↔ i.tmod c.w = colC c.x c.sz p.1 ∧ i.tdiv c.w = colC c.y c.sz p.2 := by
 have f := hF.1
 obtain ⟨e1, e2, e3, e4⟩ := encode hi (show 0 < c.w by omega)
 obtain ⟨b1, b2⟩ := colC_le (fr := c.x) (p := p.1) (show 1 ≤ c.sz by omega) e2
 obtain ⟨b3, b4⟩ := colC_le (fr := c.y) (p := p.2) (show 1 ≤ c.sz by omega) e1
 unfold sqIn bHi bLo
 simp only
 rw [b1, b2, b3, b4]
 omega
end Go.Proofs.YtcdlplobniogpaaGreat
namespace Go.Proofs.YtcdlplobniogpaaGreat
open Go Go.V Go.RowKit
theorem gi_ext {l r : List Int} (h : l.length = r.length) (he : ∀ j, j < l.length → gi l j = gi r j) : l = r := by
 refine List.ext_getElem h fun j h1 h2 => ?_
 rw [← gi_eq h1, ← gi_eq h2]; exact he j h1
set_option maxRecDepth 20000 in
theorem SameInts15_fn (v w : Value) (l r : List Int) (M : Mem) (hv : IntsV M v l) (hw : IntsV M w r) : FnP Tryz.prog 15 [v, w] M [.bool (decide (l = r))] := by
 obtain ⟨ad, c, rfl, hm, hrd⟩ := hv.get
 obtain ⟨bd, k, rfl, hm2, hrd2⟩ := hw.get
 refine Fn.of_vc cxOK Tryz.func15 rfl rfl rfl ?_
 refine VIf.mk (fun h => ?_) (fun h => ?_)
 ·have h : ¬ ((l.length : Int) = r.length) := fun e => by simp [e] at h
  exact VFact.mk ⟨by rw [decide_eq_false (fun e => h (by rw [e]))], rfl⟩ trivial
 have h : l.length = r.length := by
  refine Classical.byContradiction fun hn => ?_
  have : ¬ ((l.length : Int) = r.length) := by omega
  simp [this] at h
 refine VCode.loop cxOK Nat (fun i => ⟨[(0, .v (.slice ad l.length c)), (1, .v (.slice bd r.length k)), (5, .v (.int .i64 i))], [], 0, M, 26, ⟨fun _ => none, none, fun _ => none⟩⟩)
  (fun i => i ≤ l.length ∧ ∀ j, j < i → gi l j = gi r j) (fun i => l.length - i) 0 ⟨Nat.zero_le _, fun j hj => absurd hj (Nat.not_lt_zero _)⟩ (Wk.mk' id (by repeat' constructor) (by repeat' constructor) (injOK_id _) rfl rfl rfl) ?_
 rintro i ⟨hi, hz⟩ m
 refine VIf.mk (fun hlt => ?_) (fun hge => ?_)
 ·have hlt := lt_of_dec hlt
  obtain ⟨a1, e1, _, p1⟩ := hrd M (Mem.le_refl _) i hlt
  obtain ⟨a2, e2, _, p2⟩ := hrd2 M (Mem.le_refl _) i (by omega)
  refine VDraw.go (by kernel_rfl) ?_
  refine VIdx.mk a1 i e1 rfl hlt ?_
  refine VRead.mk _ p1 ?_
  refine VIdx.mk a2 i e2 rfl (by omega) ?_
  refine VRead.mk _ p2 ?_
  refine VIf.mk (fun hc => ?_) (fun hc => ?_)
  ·have hc : ¬ (gi l i = gi r i) := fun e => by simp [e] at hc
   exact VFact.mk ⟨by rw [decide_eq_false (fun e => hc (by rw [e]))], rfl⟩ trivial
  ·have hc : gi l i = gi r i := Classical.byContradiction fun hn => by simp [hn] at hc
   refine VArith.ok (by first | omega | (simp only; omega)) (by first | omega | (simp only; omega)) ?_
   refine ⟨i + 1, ⟨hlt, fun j hj => ?_⟩, (by first | omega | (simp only; omega)), (Wk.mk' id (by repeat' constructor) (by repeat' constructor) (injOK_id _) rfl rfl rfl)⟩
   by_cases e : j = i
   ·subst e; exact hc
   ·exact hz j (by omega)
 ·have : i = l.length := by have := ge_of_dec hge; omega
  subst this
  exact VFact.mk ⟨by rw [decide_eq_true (gi_ext h hz)], rfl⟩ trivial
theorem Has18_fn (v : Value) (l : List Int) (n : Int) (M : Mem) (hv : IntsV M v l) : FnP Tryz.prog 24 [v, .int .i64 n] M [.bool (decide (n ∈ l))] := by
 obtain ⟨ad, c, rfl, hm, hrd⟩ := hv.get
 refine Fn.of_vc cxOK Tryz.func24 rfl rfl rfl ?_
 refine VCode.loop cxOK Nat (fun i => ⟨[(0, .v (.slice ad l.length c)), (1, .v (.int .i64 n)), (5, .v (.int .i64 i))], [], 0, M, 18, ⟨fun _ => none, none, fun _ => none⟩⟩)
  (fun i => i ≤ l.length ∧ ∀ j, j < i → gi l j ≠ n) (fun i => l.length - i) 0 ⟨Nat.zero_le _, fun j hj => absurd hj (Nat.not_lt_zero _)⟩ (Wk.mk' id (by repeat' constructor) (by repeat' constructor) (injOK_id _) rfl rfl rfl) ?_
 rintro i ⟨hi, hz⟩ m
 refine VIf.mk (fun hlt => ?_) (fun hge => ?_)
 ·have hlt := lt_of_dec hlt
  obtain ⟨a1, e1, _, p1⟩ := hrd M (Mem.le_refl _) i hlt
  refine VIdx.mk a1 i e1 rfl hlt ?_
  refine VRead.mk _ p1 ?_
  refine VIf.mk (fun hc => ?_) (fun hc => ?_)
  ·have hc : gi l i = n := Classical.byContradiction fun hn => by simp [hn] at hc
   exact VFact.mk ⟨by rw [decide_eq_true (hc ▸ gi_mem hlt)], rfl⟩ trivial
  ·have hc : gi l i ≠ n := fun e => by simp [e] at hc
   refine VArith.ok (by first | omega | (simp only; omega)) (by first | omega | (simp only; omega)) ?_
   refine ⟨i + 1, ⟨hlt, fun j hj => ?_⟩, (by first | omega | (simp only; omega)), (Wk.mk' id (by repeat' constructor) (by repeat' constructor) (injOK_id _) rfl rfl rfl)⟩
   by_cases e : j = i
   ·subst e; exact hc
   ·exact hz j (by omega)
 ·have : i = l.length := by have := ge_of_dec hge; omega
  subst this
  refine VFact.mk ⟨?_, rfl⟩ trivial
  rw [decide_eq_false]
  intro h
  obtain ⟨j, hj, e⟩ := List.getElem_of_mem h
  exact hz j hj ((gi_eq hj).trans e)
set_option maxRecDepth 20000 in
set_option maxHeartbeats 2000000 in
theorem Rising18_fn (c : ChartS) (a b d v : Value) (l : List Int) (M : Mem) (h : Cha M c a b d) (hv : IntsV M v l) : FnP Tryz.prog 41 [chV c a b d, v] M [.bool (decide (RisingI c.cs.length l))] := by
 obtain ⟨ld, lc, rfl, hm, hrd⟩ := hv.get
 obtain ⟨⟨ad, ka, rfl⟩, ⟨bd, kb, rfl⟩, dd, kd, rfl⟩ := h.shape
 have bad : ∀ i, i < l.length → ¬ ((0 ≤ gi l i ∧ gi l i < c.cs.length) ∧ (0 < i → gi l (i - 1) < gi l i)) → decide (RisingI c.cs.length l) = false := fun i hi hn => decide_eq_false fun hr => hn (hr i hi)
 refine Fn.of_vc cxOK Tryz.func41 rfl rfl rfl ?_
 refine VCode.loop cxOK Nat (fun i => ⟨[(1, .v (.slice ld l.length lc)), (2, .box 0 0), (5, .v (.int .i64 i))], [(0, some (.box 26 (chSV c (.slice ad c.cs.length ka) (.slice bd c.bs.length kb) (.slice dd c.ls.length kd))))], 1, M, 43, ⟨fun _ => none, none, fun _ => none⟩⟩)
  (fun i => i ≤ l.length ∧ ∀ j, j < i → (0 ≤ gi l j ∧ gi l j < c.cs.length) ∧ (0 < j → gi l (j - 1) < gi l j)) (fun i => l.length - i) 0 ⟨Nat.zero_le _, fun j hj => absurd hj (Nat.not_lt_zero _)⟩ (Wk.mk' id (by repeat' constructor) (by repeat' constructor) (injOK_id _) rfl rfl rfl) ?_
 rintro i ⟨hi, hz⟩ m
 refine VIf.mk (fun hlt => ?_) (fun hge => ?_)
 ·have hlt := lt_of_dec hlt
  obtain ⟨a1, e1, _, p1⟩ := hrd M (Mem.le_refl _) i hlt
  refine VDraw.go (by kernel_rfl) ?_
  refine VIdx.mk a1 i e1 rfl hlt ?_
  refine VRead.mk _ p1 ?_
  refine VIf.mk (fun h1 => ?_) (fun h1 => ?_)
  ·have h1 := of_decide_eq_true h1
   repeat (first | refine VIf.tt ?_ | refine VIf.ff ?_)
   exact VFact.mk ⟨by rw [bad i hlt (by omega)], rfl⟩ trivial
  have h1 := of_decide_eq_false h1
  repeat (first | refine VIf.tt ?_ | refine VIf.ff ?_)
  refine VIdx.mk a1 i e1 rfl hlt ?_
  repeat (first | refine VIf.tt ?_ | refine VIf.ff ?_)
  refine VRead.mk _ p1 ?_
  repeat (first | refine VIf.tt ?_ | refine VIf.ff ?_)
  refine VIf.mk (fun h2 => ?_) (fun h2 => ?_)
  ·have h2 := of_decide_eq_true h2
   repeat (first | refine VIf.tt ?_ | refine VIf.ff ?_)
   exact VFact.mk ⟨by rw [bad i hlt (by omega)], rfl⟩ trivial
  have h2 := of_decide_eq_false h2
  repeat (first | refine VIf.tt ?_ | refine VIf.ff ?_)
  refine VIf.mk (fun h3 => ?_) (fun h3 => ?_)
  ·have h3 : 0 < i := by have := of_decide_eq_true h3; omega
   obtain ⟨a2, e2, _, p2⟩ := hrd M (Mem.le_refl _) (i - 1) (by omega)
   repeat (first | refine VIf.tt ?_ | refine VIf.ff ?_)
   refine VIdx.mk a1 i e1 rfl hlt ?_
   repeat (first | refine VIf.tt ?_ | refine VIf.ff ?_)
   refine VRead.mk _ p1 ?_
   repeat (first | refine VIf.tt ?_ | refine VIf.ff ?_)
   refine VArith.ok (by first | omega | (simp only; omega)) (by first | omega | (simp only; omega)) ?_
   repeat (first | refine VIf.tt ?_ | refine VIf.ff ?_)
   refine VIdx.mk a2 (i - 1) e2 (by omega) (by omega) ?_
   repeat (first | refine VIf.tt ?_ | refine VIf.ff ?_)
   refine VRead.mk _ p2 ?_
   repeat (first | refine VIf.tt ?_ | refine VIf.ff ?_)
   refine VIf.mk (fun h4 => ?_) (fun h4 => ?_)
   ·have h4 := of_decide_eq_true h4
    exact VFact.mk ⟨by rw [bad i hlt (fun hh => by have := hh.2 h3; omega)], rfl⟩ trivial
   have h4 := of_decide_eq_false h4
   refine VArith.ok (by first | omega | (simp only; omega)) (by first | omega | (simp only; omega)) ?_
   refine ⟨i + 1, ⟨hlt, fun j hj => ?_⟩, (by first | omega | (simp only; omega)), (Wk.mk' id (by repeat' constructor) (by repeat' constructor) (injOK_id _) rfl rfl rfl)⟩
   by_cases e : j = i
   ·subst e; exact ⟨by omega, fun _ => by omega⟩
   ·exact hz j (by omega)
  ·have h3 : ¬ 0 < i := by have := of_decide_eq_false h3; omega
   repeat (first | refine VIf.tt ?_ | refine VIf.ff ?_)
   refine VArith.ok (by first | omega | (simp only; omega)) (by first | omega | (simp only; omega)) ?_
   refine ⟨i + 1, ⟨hlt, fun j hj => ?_⟩, (by first | omega | (simp only; omega)), (Wk.mk' id (by repeat' constructor) (by repeat' constructor) (injOK_id _) rfl rfl rfl)⟩
   by_cases e : j = i
   ·subst e; exact ⟨by omega, fun h => absurd h h3⟩
   ·exact hz j (by omega)
 ·have : i = l.length := by have := ge_of_dec hge; omega
  subst this
  exact VFact.mk ⟨by rw [decide_eq_true (show RisingI c.cs.length l from hz)], rfl⟩ trivial
end Go.Proofs.YtcdlplobniogpaaGreat
namespace Go.Proofs.YtcdlplobniogpaaGreat
open Go Go.V Go.RowKit
theorem within18_fn (s : Pt) (lo hi : Int) (M : Mem) : FnP Tryz.prog 52 [ptv s, .int .i64 lo, .int .i64 hi] M [.bool (decide (lo ≤ s.1 ∧ s.1 ≤ s.2 ∧ s.2 ≤ hi))] := by
 refine Fn.of_vc cxOK Tryz.func52 rfl rfl rfl ?_
 repeat' (first | refine VIf.tt ?_ | refine VIf.ff ?_ | refine VIf.mk (fun _ => ?_) (fun _ => ?_) | refine VFact.mk ?_ trivial)
 all_goals (refine ⟨bool1 ?_, rfl⟩; simp only [Bool.and_eq_true, decide_eq_true_eq, decide_eq_false_iff_not, Bool.false_eq_true, false_iff] at *; omega)
theorem Valid02_fn (s : Pt) (M : Mem) : FnP Tryz.prog 57 [ptv s] M [.bool (decide (-1000000000000 ≤ s.1 ∧ s.1 ≤ s.2 ∧ s.2 ≤ 1000000000000))] := by
 refine Fn.of_vc cxOK Tryz.func57 rfl rfl rfl ?_
 repeat' (first | refine VIf.tt ?_ | refine VIf.ff ?_ | refine VIf.mk (fun _ => ?_) (fun _ => ?_) | refine VFact.mk ?_ trivial)
 all_goals (refine ⟨bool1 ?_, rfl⟩; simp only [Bool.and_eq_true, decide_eq_true_eq, decide_eq_false_iff_not, Bool.false_eq_true, false_iff] at *; omega)
theorem Height18_fn (s : Pt) (M : Mem) : FnP Tryz.prog 26 [ptv s] M [.bool (heiB s)] := by
 refine Fn.of_vc cxOK Tryz.func26 rfl rfl rfl ?_
 refine VFn.p (within18_fn s _ _ M) ?_
 exact VFact.mk ⟨rfl, rfl⟩ trivial
theorem Depth18_fn (s : Pt) (M : Mem) : FnP Tryz.prog 27 [ptv s] M [.bool (depB s)] := by
 refine Fn.of_vc cxOK Tryz.func27 rfl rfl rfl ?_
 refine VFn.p (within18_fn s _ _ M) ?_
 exact VFact.mk ⟨rfl, rfl⟩ trivial
theorem right18_fn (c : ChartS) (a b d : Value) (h v : Pt) (M : Mem) (hc : Cha M c a b d) : FnP Tryz.prog 33 [chV c a b d, ptv h, ptv v] M [.bool (sndB c h v)] := by
 have hv := Valid15_fn c a b d M hc
 obtain ⟨⟨ad, ka, rfl⟩, ⟨bd, kb, rfl⟩, dd, kd, rfl⟩ := hc.shape
 refine Fn.of_vc cxOK Tryz.func33 rfl rfl rfl ?_
 refine VFn.p hv ?_
 unfold sndB
 refine VIf.mk (fun e1 => ?_) (fun e1 => ?_)
 rotate_left
 ·repeat (first | refine VIf.tt ?_ | refine VIf.ff ?_)
  exact VFact.mk ⟨by rw [e1]; rfl, rfl⟩ trivial
 rw [e1]
 repeat (first | refine VIf.tt ?_ | refine VIf.ff ?_)
 refine VFn.p (Valid02_fn h M) ?_
 repeat (first | refine VIf.tt ?_ | refine VIf.ff ?_)
 refine VIf.mk (fun e2 => ?_) (fun e2 => ?_)
 rotate_left
 ·have e2 := of_decide_eq_false e2
  repeat (first | refine VIf.tt ?_ | refine VIf.ff ?_)
  exact VFact.mk ⟨by rw [show heiB h = false from decide_eq_false (by omega)]; rfl, rfl⟩ trivial
 repeat (first | refine VIf.tt ?_ | refine VIf.ff ?_)
 refine VFn.p (Valid02_fn v M) ?_
 repeat (first | refine VIf.tt ?_ | refine VIf.ff ?_)
 refine VIf.mk (fun e3 => ?_) (fun e3 => ?_)
 rotate_left
 ·have e3 := of_decide_eq_false e3
  repeat (first | refine VIf.tt ?_ | refine VIf.ff ?_)
  exact VFact.mk ⟨by rw [show depB v = false from decide_eq_false (by omega), Bool.and_false]; rfl, rfl⟩ trivial
 repeat (first | refine VIf.tt ?_ | refine VIf.ff ?_)
 refine VFn.p (Height18_fn h M) ?_
 repeat (first | refine VIf.tt ?_ | refine VIf.ff ?_)
 refine VIf.mk (fun e4 => ?_) (fun e4 => ?_)
 rotate_left
 ·repeat (first | refine VIf.tt ?_ | refine VIf.ff ?_)
  exact VFact.mk ⟨by rw [e4]; rfl, rfl⟩ trivial
 repeat (first | refine VIf.tt ?_ | refine VIf.ff ?_)
 refine VFn.p (Depth18_fn v M) ?_
 repeat (first | refine VIf.tt ?_ | refine VIf.ff ?_)
 exact VFact.mk ⟨by rw [e4]; rfl, rfl⟩ trivial
theorem Meets18_fn (x : CellS) (h v : Pt) (M : Mem) (hx : -100000 ≤ x.lo ∧ x.lo ≤ 100000 ∧ -100000 ≤ x.hi ∧ x.hi ≤ 100000) (hh : heiB h = true) : FnP Tryz.prog 34 [.agg #[.int .i64 x.lo, .int .i64 x.hi, .int .i64 x.dt, .bool x.vd], ptv h, ptv v] M [.bool (fitC x h v)] := by
 have hh := of_decide_eq_true hh
 refine Fn.of_vc cxOK Tryz.func34 rfl rfl rfl ?_
 unfold fitC
 refine VIf.mk (fun e1 => ?_) (fun e1 => ?_)
 ·repeat (first | refine VIf.tt ?_ | refine VIf.ff ?_)
  exact VFact.mk ⟨by rw [e1]; rfl, rfl⟩ trivial
 rw [e1]
 repeat (first | refine VIf.tt ?_ | refine VIf.ff ?_)
 refine VArith.ok (by first | omega | (simp only; omega)) (by first | omega | (simp only; omega)) ?_
 repeat (first | refine VIf.tt ?_ | refine VIf.ff ?_)
 refine VIf.mk (fun e2 => ?_) (fun e2 => ?_)
 rotate_left
 ·repeat (first | refine VIf.tt ?_ | refine VIf.ff ?_)
  exact VFact.mk ⟨by rw [e2]; rfl, rfl⟩ trivial
 rw [e2]
 repeat (first | refine VIf.tt ?_ | refine VIf.ff ?_)
 refine VArith.ok (by first | omega | (simp only; omega)) (by first | omega | (simp only; omega)) ?_
 repeat (first | refine VIf.tt ?_ | refine VIf.ff ?_)
 exact VFact.mk ⟨rfl, rfl⟩ trivial
theorem Fits18_fn (c : ChartS) (a b d : Value) (i : Int) (h v : Pt) (M : Mem) (hc : Cha M c a b d) :
  FnP Tryz.prog 12 [chV c a b d, .int .i64 i, ptv h, ptv v] M (if sndB c h v = true ∧ (0 ≤ i ∧ i < c.cs.length) then [.bool (fitI c h v i), .int .i64 0] else [.bool false, .int .i64 1]) := by
 have hR := right18_fn c a b d h v M hc
 have hcs := hc.cs
 obtain ⟨⟨ad, ka, rfl⟩, ⟨bd, kb, rfl⟩, dd, kd, rfl⟩ := hc.shape
 refine Fn.of_vc cxOK Tryz.func12 rfl rfl rfl ?_
 refine VFn.p hR ?_
 refine VIf.mk (fun e1 => ?_) (fun e1 => ?_)
 ·have e1 := bn1 e1
  repeat (first | refine VIf.tt ?_ | refine VIf.ff ?_)
  exact VFact.mk ⟨by rw [if_neg (fun h => by rw [e1] at h; cases h.1)], rfl⟩ trivial
 have e1 := bn2 e1
 repeat (first | refine VIf.tt ?_ | refine VIf.ff ?_)
 refine VIf.mk (fun g1 => ?_) (fun g1 => ?_)
 ·have g1 := of_decide_eq_true g1
  repeat (first | refine VIf.tt ?_ | refine VIf.ff ?_)
  exact VFact.mk ⟨by rw [if_neg (fun h => by omega)], rfl⟩ trivial
 have g1 := of_decide_eq_false g1
 repeat (first | refine VIf.tt ?_ | refine VIf.ff ?_)
 refine VIf.mk (fun g2 => ?_) (fun g2 => ?_)
 ·have g2 := of_decide_eq_true g2
  exact VFact.mk ⟨by rw [if_neg (fun h => by omega)], rfl⟩ trivial
 have g2 := of_decide_eq_false g2
 have hs : validC c = true ∧ heiB h = true ∧ depB v = true := by simpa only [sndB, Bool.and_eq_true] using e1
 obtain ⟨ad', k', eq, hm, hrd⟩ := hcs.get
 cases eq
 obtain ⟨ad', ead, _, hp⟩ := hrd M (Mem.le_refl _) i.toNat (by omega)
 have bd := cell_bd hs.1 (i := i.toNat) (by omega)
 rw [if_pos ⟨e1, by omega⟩]
 unfold fitI
 generalize gce c.cs i.toNat = x at *
 refine VDraw.go (by kernel_rfl) ?_
 refine VIdx.mk ad' i.toNat ead (by omega) (by omega) ?_
 refine VReads.mk [.int .i64 x.lo, .int .i64 x.hi, .int .i64 x.dt, .bool x.vd] rfl hp ?_
 refine VFn.p (Meets18_fn x h v M bd hs.2.1) ?_
 exact VFact.mk ⟨rfl, rfl⟩ trivial
end Go.Proofs.YtcdlplobniogpaaGreat
namespace Go.Proofs.YtcdlplobniogpaaGreat
open Go Go.V Go.RowKit
theorem rect_hl {c : ChartS} (i : Int) : Hl [bLo c i, bHi c i, ((bLo c i).1, (bHi c i).2), ((bHi c i).1, (bLo c i).2)] (sqC c i) := by
 refine (sqC_hl (c := c) i).congr fun x => ?_
 simp only [sqL, List.mem_cons, List.not_mem_nil, or_false]
 constructor
 ·rintro (h | h | h | h) <;> simp [h]
 ·rintro (h | h | h | h) <;> simp [h]
theorem Rect18_fn (c : ChartS) (i : Int) (hF : frameC c) (hi : 0 ≤ i ∧ i < c.cs.length) (M : Mem) : V.Fn Tryz.prog 156 [ptv (bLo c i), ptv (bHi c i)] M fun rs M' => ∃ u, rs = [u] ∧ Pts M' u (sqC c i) := by
 have hR := rect_hl (c := c) i
 have h1 := place_C (sq_bd hF hi).2.1
 have h2 := place_C (sq_bd hF hi).2.2
 generalize hlo : bLo c i = lo at *
 generalize hhi : bHi c i = hg at *
 refine Fn.of_vc cxOK Tryz.func156 rfl rfl rfl ?_
 refine VFz.mk fun x Bx M1 hM1 hx => ?_
 have hP : Pts M1 x [lo, hg, (lo.1, hg.2), (hg.1, lo.2)] := hx
 refine VFn.mk _ (Around_fn x _ _ M1 hP hR (fun p hp => ?_) (by simp)) ?_
 ·simp only [List.mem_cons, List.not_mem_nil, or_false] at hp
  rcases hp with rfl | rfl | rfl | rfl
  ·exact h1
  ·exact h2
  ·exact ⟨h1.1, h2.2⟩
  ·exact ⟨h2.1, h1.2⟩
 rintro rs M2 hM2 ⟨u, rfl, hu⟩
 exact VFact.mk ⟨u, rfl, hu⟩ trivial
theorem Square18_fn (c : ChartS) (a b d : Value) (i : Int) (M : Mem) (hc : Cha M c a b d) (hF : frameC c) (hi : 0 ≤ i ∧ i < c.cs.length) : V.Fn Tryz.prog 116 [chV c a b d, .int .i64 i] M fun rs M' => ∃ u, rs = [u] ∧ Pts M' u (sqC c i) := by
 have hB := Bounds15_fn c a b d i M hc hF hi
 have hR := Rect18_fn c i hF hi
 obtain ⟨⟨ad, ka, rfl⟩, ⟨bd, kb, rfl⟩, dd, kd, rfl⟩ := hc.shape
 refine Fn.of_vc cxOK Tryz.func116 rfl rfl rfl ?_
 refine VFn.mk _ hB ?_
 rintro rs M1 hM1 rfl
 refine VFn.mk _ (hR M1) ?_
 rintro rs M2 hM2 ⟨u, rfl, hu⟩
 exact VFact.mk ⟨u, rfl, hu⟩ trivial
theorem touI_take {c : ChartS} {p : List Pt} {L : List Int} {k : Nat} (h : k < L.length) : ((L.take (k + 1)).filter fun i => decide (0 < (sharA p (sqC c i)).length)) = ((L.take k).filter fun i => decide (0 < (sharA p (sqC c i)).length)) ++ (if decide (0 < (sharA p (sqC c (gi L k))).length) = true then [gi L k] else []) := by
 have e : L.take (k + 1) = L.take k ++ [gi L k] := by rw [List.take_add_one]; congr 1; unfold gi; simp [h]
 rw [e, List.filter_append]
 congr 1
 rw [List.filter_cons]
 rfl
set_option maxRecDepth 20000 in
set_option maxHeartbeats 2000000 in
theorem Under18_fn (c : ChartS) (a b d w : Value) (p : List Pt) (M : Mem) (hc : Cha M c a b d) (hF : frameC c) (hp : Pts M w p) (hV : validB p = true) : V.Fn Tryz.prog 64 [chV c a b d, w] M fun rs M' => ∃ u, rs = [u] ∧ IntsV M' u (touI c p) := by
 have hC : allC p := fun k hk => place_C (valid_place hV hk)
 have hCo := Corners03_fn w p M hp (valid_len hV).1 hC
 have hU := fun M' (hM : M.le M') => Under15_fn c a b d (boxLo p) (boxHi p) M' (hc.le hM) hF
 have hS := fun M' (hM : M.le M') i hi => Square18_fn c a b d i M' (hc.le hM) hF hi
 have hc4 := hF.1.2.2.2.2.1
 obtain ⟨⟨ad, ka, rfl⟩, ⟨bd, kb, rfl⟩, dd, kd, rfl⟩ := hc.shape
 obtain ⟨wa, wk, rfl⟩ := hp.shape
 refine Fn.of_vc cxOK Tryz.func64 rfl rfl rfl ?_
 refine VFn.p hCo ?_
 refine VFn.mk _ (hU M (Mem.le_refl _)) ?_
 rintro rs M1 hM1 ⟨u, rfl, hu⟩
 have hun := underC_len c (boxLo p) (boxHi p)
 have hub : ∀ i ∈ underC c (boxLo p) (boxHi p), 0 ≤ i ∧ i < c.cs.length := fun i hi => (underC_mem.1 hi).1
 have hT : touI c p = (underC c (boxLo p) (boxHi p)).filter fun i => decide (0 < (sharA p (sqC c i)).length) := rfl
 rw [hT]
 generalize underC c (boxLo p) (boxHi p) = L at *
 obtain ⟨ua, uk, rfl, hum, hur⟩ := hu.get
 refine VCode.loop cxOK (Nat × List Int × Mem) (fun (⟨k, T, M2⟩ : Nat × List Int × Mem) => ⟨[(1, .v (.slice wa p.length wk)), (2, .box 0 0), (7, .v (.slice ua L.length uk)), (8, .row 1), (9, .v (.int .i64 k))], [(0, some (.box 26 [.v (.int .i64 c.ver), .v (.int .i64 c.x), .v (.int .i64 c.y), .v (.int .i64 c.w), .v (.int .i64 c.h), .v (.int .i64 c.sz), .v (.slice ad c.cs.length ka), .v (.slice bd c.bs.length kb), .v (.slice dd c.ls.length kd)])), (1, some (.row 3 1 T.length (T.map (Value.int .i64))))], 2, M2, 47, ⟨fun _ => none, none, fun _ => none⟩⟩)
  (fun (⟨k, T, M2⟩ : Nat × List Int × Mem) => (M1.le M2 ∧ k ≤ L.length) ∧ T = (L.take k).filter fun i => decide (0 < (sharA p (sqC c i)).length)) (fun (⟨k, _, _⟩ : Nat × List Int × Mem) => L.length - k) (0, [], M1) ⟨⟨Mem.le_refl _, Nat.zero_le _⟩, rfl⟩
  (Wk.nil 8 3 1 rfl (Wk.mk' (fun i => if i = 1 then 3 else i) (by repeat' constructor) (by repeat' constructor) (injOK_b rfl) rfl rfl rfl)) ?_
 rintro ⟨k, T, M2⟩ ⟨⟨hM2, hk⟩, hTk⟩ m
 have hTl : T.length ≤ 4000 := by
  have := List.length_filter_le (fun i => decide (0 < (sharA p (sqC c i)).length)) (L.take k)
  rw [List.length_take] at this
  rw [hTk]; omega
 have m2 := hM1.trans hM2
 refine VIf.mk (fun hlt => ?_) (fun hge => ?_)
 rotate_left
 ·have : k = L.length := by have := ge_of_dec hge; omega
  subst this
  rw [List.take_length] at hTk
  refine VFz.mk fun x Bx M3 hM3 hx => ?_
  refine VFact.mk ⟨x, rfl, ?_⟩ trivial
  rw [← hTk]
  refine IntsV.of hx fun i hi => ?_
  rw [hTk] at hi
  have := hub i (List.mem_filter.1 hi).1
  unfold i64r
  omega
 have hlt := lt_of_dec hlt
 obtain ⟨a1, f1, _, f3⟩ := hur M2 hM2 k hlt
 have hib := hub (gi L k) (gi_memI hlt)
 have hst := touI_take (c := c) (p := p) hlt
 refine VDraw.go (by kernel_rfl) ?_
 refine VIdx.mk a1 k f1 rfl hlt ?_
 refine VRead.mk _ f3 ?_
 refine VFn.mk _ (hS M2 m2 _ hib) ?_
 rintro rs M3 hM3 ⟨q, rfl, hq⟩
 refine VFn.mk _ (Met04_fn _ q p _ M3 (hp.le (m2.trans hM3)) hq hV (sqC_valid hF hib) (sqC_len _)) ?_
 rintro rs M4 hM4 ⟨u, rfl, hu4⟩
 have n4 := hM2.trans (hM3.trans hM4)
 refine VIf.mk (fun hz => ?_) (fun hz => ?_)
 ·obtain ⟨a2, g1, _, g3⟩ := hur M4 n4 k hlt
  refine VIdx.mk a2 k g1 rfl hlt ?_
  refine VRead.mk _ g3 ?_
  refine VFact.mk (by simp only; omega) ?_
  refine VArith.ok (by first | omega | (simp only; omega)) (by first | omega | (simp only; omega)) ?_
  rw [hz, if_pos rfl] at hst
  refine ⟨(k + 1, T ++ [gi L k], M4), ⟨⟨n4, hlt⟩, by rw [hst, hTk]⟩, (by first | omega | (simp only; omega)), Wk.mk' (fun i => if i = 1 then 3 else i) (by repeat' constructor) ?_ (injOK_b rfl) rfl rfl rfl⟩
  repeat' constructor
  all_goals simp
 ·refine VArith.ok (by first | omega | (simp only; omega)) (by first | omega | (simp only; omega)) ?_
  rw [hz, if_neg Bool.false_ne_true, List.append_nil] at hst
  refine ⟨(k + 1, T, M4), ⟨⟨n4, hlt⟩, by rw [hst, hTk]⟩, (by first | omega | (simp only; omega)), (Wk.mk' id (by repeat' constructor) (by repeat' constructor) (injOK_id _) rfl rfl rfl)⟩
end Go.Proofs.YtcdlplobniogpaaGreat
