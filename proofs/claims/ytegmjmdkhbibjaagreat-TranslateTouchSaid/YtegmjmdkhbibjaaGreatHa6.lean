import Derived.Test.YtegmjmdkhbibjaaGreatHa5
import Derived.Shelf.SlIterI.Nil
import Derived.Shelf.SortM.Plain
import Derived.Shelf.SortM.SortNone
set_option linter.unusedVariables false
set_option linter.unusedSimpArgs false
/- Contracts of chart: the leaves. -/
namespace Go.Proofs.YtegmjmdkhbibjaaGreat
open Go Go.V Go.RowKit
theorem isID_fn (n : Int) (M : Mem) : FnP Tryz.prog 61 [.int .i64 n] M [.bool (idOK n)] := by
  refine Fn.of_vc cxOK Tryz.func61 rfl rfl rfl ?_
  repeat (first | refine VIf.tt ?_ | refine VIf.ff ?_)
  refine VIf.mk (fun h => ?_) (fun h => ?_)
  · have h := of_decide_eq_true h
    repeat (first | refine VIf.tt ?_ | refine VIf.ff ?_)
    refine VFact.mk ⟨?_, rfl⟩ trivial
    have : idOK n = decide (n ≤ 1000000) := by unfold idOK; simp [h]
    rw [this]
  · have h := of_decide_eq_false h
    repeat (first | refine VIf.tt ?_ | refine VIf.ff ?_)
    refine VFact.mk ⟨?_, rfl⟩ trivial
    have : idOK n = false := by unfold idOK; simp [h]
    rw [this]
theorem chartPlace_fn (p : Pt) (M : Mem) (h1 : i64r p.1) (h2 : i64r p.2) : V.Fn Tryz.prog 50 [ptv p] M fun rs _ => rs = [.bool (placeB p)] := by
  refine Fn.of_vc cxOK Tryz.func50 rfl rfl rfl ?_
  repeat (first | refine VIf.tt ?_ | refine VIf.ff ?_)
  refine VFz.mk fun x B M1 hle hx => ?_
  repeat (first | refine VIf.tt ?_ | refine VIf.ff ?_)
  refine VFn.mk _ (HullOne_fn x p M1 hx h1 h2) ?_
  rintro rs M2 hM2 hr
  by_cases hp : placeB p = true
  · rw [if_pos hp] at hr
    obtain ⟨u, rfl, hu⟩ := hr
    repeat (first | refine VIf.tt ?_ | refine VIf.ff ?_)
    refine VFact.mk ?_ trivial
    rw [hp]; rfl
  · rw [if_neg hp] at hr
    subst hr
    have hp : placeB p = false := by simpa using hp
    repeat (first | refine VIf.tt ?_ | refine VIf.ff ?_)
    refine VFact.mk ?_ trivial
    rw [hp]; rfl
theorem isCell_fn (c : CellS) (M : Mem) : FnP Tryz.prog 64 [.agg #[.int .i64 c.lo, .int .i64 c.hi, .int .i64 c.dt, .bool c.vd]] M [.bool (cellOK c)] := by
  have bad : ¬ cellP c → cellOK c = false := fun h => decide_eq_false h
  refine Fn.of_vc cxOK Tryz.func64 rfl rfl rfl ?_
  repeat (first | refine VIf.tt ?_ | refine VIf.ff ?_)
  refine VIf.mk (fun h1 => ?_) (fun h1 => ?_)
  rotate_left
  · have h1 := of_decide_eq_false h1
    repeat (first | refine VIf.tt ?_ | refine VIf.ff ?_)
    refine VFact.mk ⟨?_, rfl⟩ trivial
    rw [bad (fun h => by unfold cellP at h; omega)]
  have h1 := of_decide_eq_true h1
  repeat (first | refine VIf.tt ?_ | refine VIf.ff ?_)
  refine VIf.mk (fun h2 => ?_) (fun h2 => ?_)
  rotate_left
  · have h2 := of_decide_eq_false h2
    repeat (first | refine VIf.tt ?_ | refine VIf.ff ?_)
    refine VFact.mk ⟨?_, rfl⟩ trivial
    rw [bad (fun h => by unfold cellP at h; omega)]
  have h2 := of_decide_eq_true h2
  repeat (first | refine VIf.tt ?_ | refine VIf.ff ?_)
  refine VIf.mk (fun h3 => ?_) (fun h3 => ?_)
  rotate_left
  · have h3 := of_decide_eq_false h3
    repeat (first | refine VIf.tt ?_ | refine VIf.ff ?_)
    refine VFact.mk ⟨?_, rfl⟩ trivial
    rw [bad (fun h => by unfold cellP at h; omega)]
  have h3 := of_decide_eq_true h3
  repeat (first | refine VIf.tt ?_ | refine VIf.ff ?_)
  refine VIf.mk (fun h4 => ?_) (fun h4 => ?_)
  rotate_left
  · have h4 := of_decide_eq_false h4
    repeat (first | refine VIf.tt ?_ | refine VIf.ff ?_)
    refine VFact.mk ⟨?_, rfl⟩ trivial
    rw [bad (fun h => by unfold cellP at h; omega)]
  have h4 := of_decide_eq_true h4
  repeat (first | refine VIf.tt ?_ | refine VIf.ff ?_)
  refine VFact.mk ⟨?_, rfl⟩ trivial
  have : cellOK c = decide (c.dt ≤ 1000000000) := by
    unfold cellOK
    rw [decide_eq_decide]
    unfold cellP
    omega
  rw [this]
theorem chValid1_fn (c : CellS) (M : Mem) : FnP Tryz.prog 63 [.agg #[.int .i64 c.lo, .int .i64 c.hi, .int .i64 c.dt, .bool c.vd]] M [.bool (!cellOK c)] := by
  refine Fn.of_vc cxOK Tryz.func63 rfl rfl rfl ?_
  repeat (first | refine VIf.tt ?_ | refine VIf.ff ?_)
  refine VFn.p (isCell_fn c _) ?_
  repeat (first | refine VIf.tt ?_ | refine VIf.ff ?_)
  exact VFact.mk ⟨rfl, rfl⟩ trivial
theorem IndexCe_fn (v : Value) (l : List CellS) (M : Mem) (hv : CelsV M v l) :
    V.Fn Tryz.prog 78 [v, .func (.func 63) #[] #[]] M fun rs _ => ∃ k : Int, rs = [.int .i64 k] ∧ (0 ≤ k ↔ l.any (fun c => !cellOK c) = true) := by
  obtain ⟨ad, c, rfl, hm, hrd⟩ := hv.get
  refine Fn.of_vc cxOK Tryz.func78 rfl rfl rfl ?_
  repeat (first | refine VIf.tt ?_ | refine VIf.ff ?_)
  refine VCode.loop cxOK Nat (fun i => ⟨[(0, .v (.slice ad l.length c)), (1, .v (.func (.func 63) #[] #[])), (7, .v (.int .i64 l.length)), (8, .v (.int .i64 i))], [], 0, M, 19, ⟨fun _ => none, none, fun _ => none⟩⟩)
    (fun i => i ≤ l.length ∧ ∀ j, j < i → (!cellOK (gce l j)) = false) (fun i => l.length - i) 0 ⟨Nat.zero_le _, fun j hj => by simp at hj⟩ (Wk.mk' id (by repeat' constructor) (by repeat' constructor) (injOK_id _) rfl rfl rfl) ?_
  rintro i ⟨hi, hz⟩ m
  repeat (first | refine VIf.tt ?_ | refine VIf.ff ?_)
  refine VIf.mk (fun hlt => ?_) (fun hge => ?_)
  · have hlt := lt_of_dec hlt
    obtain ⟨ad', ead, _, hpi⟩ := hrd M (Mem.le_refl _) i hlt
    repeat (first | refine VIf.tt ?_ | refine VIf.ff ?_)
    refine VIdx.mk ad' i ead rfl hlt ?_
    repeat (first | refine VIf.tt ?_ | refine VIf.ff ?_)
    refine VReads.mk [.int .i64 (gce l i).lo, .int .i64 (gce l i).hi, .int .i64 (gce l i).dt, .bool (gce l i).vd] rfl hpi ?_
    repeat (first | refine VIf.tt ?_ | refine VIf.ff ?_)
    refine VFn.p (chValid1_fn (gce l i) M) ?_
    repeat (first | refine VIf.tt ?_ | refine VIf.ff ?_)
    refine VIf.mk (fun hc => ?_) (fun hc => ?_)
    · repeat (first | refine VIf.tt ?_ | refine VIf.ff ?_)
      refine VFact.mk ⟨i, rfl, ?_⟩ trivial
      have := any_getD cell0 (fun c => !cellOK c) l hlt hc
      simp [this]
    · repeat (first | refine VIf.tt ?_ | refine VIf.ff ?_)
      refine VArith.ok (by first | omega | (simp only; omega)) (by first | omega | (simp only; omega)) ?_
      refine ⟨i + 1, ⟨hlt, fun j hj => ?_⟩, (by first | omega | (simp only; omega)), (Wk.mk' id (by repeat' constructor) (by repeat' constructor) (injOK_id _) rfl rfl rfl)⟩
      by_cases e : j = i
      · subst e; exact hc
      · exact hz j (by omega)
  · have : i = l.length := by have := ge_of_dec hge; omega
    subst this
    repeat (first | refine VIf.tt ?_ | refine VIf.ff ?_)
    refine VFact.mk ⟨-1, rfl, ?_⟩ trivial
    have := any_none cell0 (fun c => !cellOK c) l hz
    simp [this]
theorem ContainsCe_fn (v : Value) (l : List CellS) (M : Mem) (hv : CelsV M v l) :
    V.Fn Tryz.prog 62 [v, .func (.func 63) #[] #[]] M fun rs _ => rs = [.bool (!l.all cellOK)] := by
  obtain ⟨ad, c, rfl⟩ := hv.shape
  refine Fn.of_vc cxOK Tryz.func62 rfl rfl rfl ?_
  repeat (first | refine VIf.tt ?_ | refine VIf.ff ?_)
  refine VFn.mk _ (IndexCe_fn _ l M hv) ?_
  rintro rs M1 hM1 ⟨k, rfl, hk⟩
  repeat (first | refine VIf.tt ?_ | refine VIf.ff ?_)
  refine VFact.mk (bool1 ?_) trivial
  rw [List.not_all_eq_any_not, ← hk]; simp
theorem beaconID_fn (b : BeaS) (M : Mem) : FnP Tryz.prog 67 [.agg #[.int .i64 b.id, .int .i64 b.x, .int .i64 b.y]] M [.int .i64 b.id] := by
  refine Fn.of_vc cxOK Tryz.func67 rfl rfl rfl ?_
  repeat (first | refine VIf.tt ?_ | refine VIf.ff ?_)
  exact VFact.mk ⟨rfl, rfl⟩ trivial
theorem lineID_fn (n : Int) (v : Value) (M : Mem) : FnP Tryz.prog 70 [.agg #[.int .i64 n, v]] M [.int .i64 n] := by
  refine Fn.of_vc cxOK Tryz.func70 rfl rfl rfl ?_
  repeat (first | refine VIf.tt ?_ | refine VIf.ff ?_)
  exact VFact.mk ⟨rfl, rfl⟩ trivial
theorem chValid2_fn (b : BeaS) (M : Mem) (h : i64r b.id ∧ i64r b.x ∧ i64r b.y) : V.Fn Tryz.prog 65 [.agg #[.int .i64 b.id, .int .i64 b.x, .int .i64 b.y]] M fun rs _ => rs = [.bool (beaOK b)] := by
  refine Fn.of_vc cxOK Tryz.func65 rfl rfl rfl ?_
  repeat (first | refine VIf.tt ?_ | refine VIf.ff ?_)
  refine VFn.p (isID_fn _ _) ?_
  repeat (first | refine VIf.tt ?_ | refine VIf.ff ?_)
  refine VIf.mk (fun h1 => ?_) (fun h1 => ?_)
  · repeat (first | refine VIf.tt ?_ | refine VIf.ff ?_)
    refine VFn.mk _ (chartPlace_fn (b.x, b.y) _ h.2.1 h.2.2) ?_
    rintro rs M1 hM1 rfl
    repeat (first | refine VIf.tt ?_ | refine VIf.ff ?_)
    refine VFact.mk ?_ trivial
    unfold beaOK; rw [h1]; rfl
  · repeat (first | refine VIf.tt ?_ | refine VIf.ff ?_)
    refine VFact.mk ?_ trivial
    unfold beaOK; rw [h1]; rfl
theorem isLine1_fn (p : Pt) (M : Mem) (h1 : i64r p.1) (h2 : i64r p.2) : V.Fn Tryz.prog 80 [ptv p] M fun rs _ => rs = [.bool (!placeB p)] := by
  refine Fn.of_vc cxOK Tryz.func80 rfl rfl rfl ?_
  repeat (first | refine VIf.tt ?_ | refine VIf.ff ?_)
  refine VFn.mk _ (chartPlace_fn p _ h1 h2) ?_
  rintro rs M1 hM1 rfl
  repeat (first | refine VIf.tt ?_ | refine VIf.ff ?_)
  exact VFact.mk rfl trivial
/-- As IndexP_fn: the predicate may make memory. -/
theorem IndexPm_fn (v : Value) (ps : List Pt) (fid : Nat) (g : Pt → Bool) (M : Mem) (hv : Pts M v ps) (hg : ∀ i, i < ps.length → ∀ M', V.Fn Tryz.prog fid [ptv (gp ps i)] M' fun rs _ => rs = [.bool (g (gp ps i))]) :
    V.Fn Tryz.prog 97 [v, .func (.func fid) #[] #[]] M fun rs _ => ∃ k : Int, rs = [.int .i64 k] ∧ (0 ≤ k ↔ ps.any g = true) := by
  obtain ⟨ad, c, rfl⟩ := hv.shape
  obtain ⟨_, hm, hrd⟩ := hv.cellsOf
  unfold maxLen at hm
  refine Fn.of_vc cxOK Tryz.func97 rfl rfl rfl ?_
  repeat (first | refine VIf.tt ?_ | refine VIf.ff ?_)
  refine VCode.loop cxOK (Nat × Mem) (fun s => ⟨[(0, .v (.slice ad ps.length c)), (1, .v (.func (.func fid) #[] #[])), (7, .v (.int .i64 ps.length)), (8, .v (.int .i64 s.1))], [], 0, s.2, 19, ⟨fun _ => none, none, fun _ => none⟩⟩)
    (fun s => M.le s.2 ∧ s.1 ≤ ps.length ∧ ∀ j, j < s.1 → g (gp ps j) = false) (fun s => ps.length - s.1) (0, M) ⟨Mem.le_refl _, Nat.zero_le _, fun j hj => by simp at hj⟩ (Wk.mk' id (by repeat' constructor) (by repeat' constructor) (injOK_id _) rfl rfl rfl) ?_
  rintro ⟨i, M1⟩ ⟨hM1, hi, hz⟩ m
  have hM1 : M.le M1 := hM1
  repeat (first | refine VIf.tt ?_ | refine VIf.ff ?_)
  refine VIf.mk (fun hlt => ?_) (fun hge => ?_)
  · have hlt := lt_of_dec hlt
    obtain ⟨ad', ead, hpi⟩ := hrd M1 hM1 i hlt
    repeat (first | refine VIf.tt ?_ | refine VIf.ff ?_)
    refine VIdx.mk ad' i ead rfl hlt ?_
    repeat (first | refine VIf.tt ?_ | refine VIf.ff ?_)
    refine VReads.mk [.int .i64 (gp ps i).1, .int .i64 (gp ps i).2] rfl hpi ?_
    repeat (first | refine VIf.tt ?_ | refine VIf.ff ?_)
    refine VFn.mk _ (hg i hlt M1) ?_
    rintro rs M2 hM2 rfl
    repeat (first | refine VIf.tt ?_ | refine VIf.ff ?_)
    refine VIf.mk (fun hc => ?_) (fun hc => ?_)
    · repeat (first | refine VIf.tt ?_ | refine VIf.ff ?_)
      refine VFact.mk ⟨i, rfl, ?_⟩ trivial
      have := any_getD (0, 0) g ps hlt hc
      simp [this]
    · repeat (first | refine VIf.tt ?_ | refine VIf.ff ?_)
      refine VArith.ok (by first | omega | (simp only; omega)) (by first | omega | (simp only; omega)) ?_
      refine ⟨(i + 1, M2), ⟨hM1.trans hM2, hlt, fun j hj => ?_⟩, (by first | omega | (simp only; omega)), (Wk.mk' id (by repeat' constructor) (by repeat' constructor) (injOK_id _) rfl rfl rfl)⟩
      by_cases e : j = i
      · subst e; exact hc
      · exact hz j (by simp only at hj ⊢; omega)
  · have : i = ps.length := by have := ge_of_dec hge; have hi : i ≤ ps.length := hi; omega
    subst this
    repeat (first | refine VIf.tt ?_ | refine VIf.ff ?_)
    refine VFact.mk ⟨-1, rfl, ?_⟩ trivial
    have := any_none (0, 0) g ps hz
    simp [this]
theorem ContainsPm_fn (v : Value) (ps : List Pt) (fid : Nat) (g : Pt → Bool) (M : Mem) (hv : Pts M v ps) (hg : ∀ i, i < ps.length → ∀ M', V.Fn Tryz.prog fid [ptv (gp ps i)] M' fun rs _ => rs = [.bool (g (gp ps i))]) :
    V.Fn Tryz.prog 79 [v, .func (.func fid) #[] #[]] M fun rs _ => rs = [.bool (ps.any g)] := by
  obtain ⟨ad, c, rfl⟩ := hv.shape
  refine Fn.of_vc cxOK Tryz.func79 rfl rfl rfl ?_
  repeat (first | refine VIf.tt ?_ | refine VIf.ff ?_)
  refine VFn.mk _ (IndexPm_fn _ ps fid g M hv hg) ?_
  rintro rs M1 hM1 ⟨k, rfl, hk⟩
  repeat (first | refine VIf.tt ?_ | refine VIf.ff ?_)
  refine VFact.mk (bool1 ?_) trivial
  rw [← hk]; simp
end Go.Proofs.YtegmjmdkhbibjaaGreat

/- The verification-condition framework, part V: calls that keep the plain slots; that hand back a slice, made immutable; a block of one's own that was made immutable and is written again. -/
namespace Go.V
open Go Go.RowKit
variable {P : Program}

/-- The plain slots stay, whatever a call does. -/
theorem VCall.pl {f : Nat} {args : List SV} {st : St} {K : SV → St → Prop} (pls : List (Nat × Value)) (hs : subSl st (plSl pls))
    (h : VCall P f args ⟨[], st.ow, st.nx, st.M, st.nt, st.G⟩ fun s st' => K s ⟨plSl pls, st'.ow, st'.nx, st'.M, st'.nt, st'.G⟩) : VCall P f args st K := by
  refine ⟨h.ent, fun n₀ w M₀ ρ W hS hsa hss => ?_⟩
  refine (h.run n₀ w M₀ ρ W (hS.same rfl rfl rfl rfl) hsa (fun d s hd => by cases hd)).mono ?_
  rintro e W' ⟨s, st', ρ', rfl, h1, h2, h3, h4, h5, h6⟩
  refine ⟨s, ⟨plSl pls, st'.ow, st'.nx, st'.M, st'.nt, st'.G⟩, ρ', rfl, h1, h2.same rfl rfl rfl rfl, fun d s' hd => ?_, h4, h5, h6⟩
  obtain ⟨x, rfl⟩ := plSl_mem (look_mem hd)
  exact ⟨trivial, _, subSl_mem hs (look_mem hd), rfl⟩
/-- What a call hands back, a slice of one's own, is made immutable. -/
theorem VCall.frzR {f : Nat} {args : List SV} {st : St} {K : SV → St → Prop}
    (h : VCall P f args st fun s st' => ∃ id E sz n xs, s = .row id ∧ st'.own id = some (.row E sz n xs) ∧ st'.sl = [] ∧ ∀ x M', st'.M.le M' → SlAt M' sz x n xs → K (.v x) ⟨[], (id, none) :: st'.ow, st'.nx, M', st'.nt, st'.G⟩) : VCall P f args st K := by
  refine ⟨h.ent, fun n₀ w M₀ ρ W hS hsa hss => ?_⟩
  refine (h.run n₀ w M₀ ρ W hS hsa hss).mono ?_
  rintro e W' ⟨s, st', ρ', rfl, h1, h2, h3, h4, h5, id, E, sz, n, xs, rfl, hid, hsl, h6⟩
  obtain ⟨M', l1, s1, hS1⟩ := h2.frzRow hid
  exact ⟨.v (slOf (ρ' id)), ⟨[], (id, none) :: st'.ow, st'.nx, M', st'.nt, st'.G⟩, ρ', rfl, trivial, hS1.same rfl rfl rfl rfl, fun d s' hd => (by cases hd), h4, h5, h6 _ M' l1 s1⟩
/-- A state, taken apart. -/
def St.dK (st : St) (k : List (Nat × SV) → List (Nat × Option OE) → Nat → Mem → Nat → Gh → Prop) : Prop := match st with
  | ⟨sl, ow, nx, M, nt, G⟩ => k sl ow nx M nt G
theorem dK_iff {st : St} {k : List (Nat × SV) → List (Nat × Option OE) → Nat → Mem → Nat → Gh → Prop} (h : st.dK k) : k st.sl st.ow st.nx st.M st.nt st.G := by cases st; exact h
/-- A block that a call has made is marked: it is the call's own. -/
theorem VCall.nw {f : Nat} {vs : List Value} {st : St} {K : SV → St → Prop} {M : Mem} {R : List Value → Mem → Prop} (hF : Fn P f vs M R) (hM : st.M = M)
    (hK : ∀ rs M', M.le M' → R rs M' → ∃ B o, M B = none ∧ M' B = some o ∧ st.dK fun sl ow nx _ nt G => K (retSV rs) ⟨sl, (nx, some (.nw B)) :: ow, nx + 1, M', nt, G⟩) : VCall P f (vs.map .v) st K := by
  subst hM
  refine ⟨hF.1, fun n₀ w M₀ ρ W hS hsa hss => ?_⟩
  have e : (vs.map SV.v).map (SV.den ρ) = vs := by rw [List.map_map]; exact (List.map_congr_left fun _ _ => rfl).trans (List.map_id vs)
  rw [e]
  refine (hF.2 W hS.mem).mono ?_
  rintro e W' ⟨rs, M', rfl, g2, g3, g4, g5, g6⟩
  obtain ⟨B, o, b1, b2, hk⟩ := hK rs M' g3 g6
  replace hk := dK_iff hk
  have h1 := hS.grow g2 g4 g5
  have hB : n₀ ≤ B := by
    refine Nat.le_trans hS.size (Nat.le_of_not_lt fun hlt => ?_)
    rw [g5 B hlt, b1] at b2; cases b2
  have h2 := h1.add (.nw B) (.bool true) (Below.refl _ _) trivial ⟨by rw [upd_same]; rfl, hB⟩ (fun b hb => by cases hb)
  refine ⟨retSV rs, _, upd ρ st.nx (.bool true), by rw [retSV_den], retSV_sc _ _, h2, fun d s hd => ?_, rfl, rfl, hk⟩
  have hs := hss d s hd
  exact ⟨SV.sc_mono (Nat.le_succ _) hs, s, hd, SV.den_agree (agree_upd ρ st.nx _) hs⟩
def Mem.wo (M : Mem) (B : Nat) : Mem := fun b => if b = B then none else M b
theorem Mem.wo_le {Ma M : Mem} {B : Nat} (h : Ma.le M) (hB : Ma B = none) : Ma.le (M.wo B) := fun b o hb => by
  unfold Mem.wo
  split
  · rename_i e; subst e; rw [hB] at hb; cases hb
  · exact h b o hb
/-- A marked block, known as immutable, is one's own again. -/
theorem SatH.thaw {n₀ : Nat} {w : World} {M₀ : Mem} {ρ : Env} {st : St} {W : World} (h : SatH n₀ w M₀ ρ st W) {g B : Nat} (hg : st.own g = some (.nw B)) {arr : Array Value} {E sz n c : Nat} (hB : st.M B = some (.cells arr E (0, 0)))
    (hf : st.G.f B = none) (hn : n ≤ c) (hc : c ≤ maxLen) (hs : arr.size = c * sz) (h1 : ∀ v ∈ arr.toList.take (n * sz), v.oneCell' = true) :
    SatH n₀ w M₀ (upd ρ st.nx (.slice (some ⟨B, 0, none⟩) n c)) ⟨st.sl, (st.nx, some (.row E sz n (arr.toList.take (n * sz)))) :: st.ow, st.nx + 1, st.M.wo B, st.nt, st.G⟩ W := by
  have hnB := (h.own g _ hg).2.2.2
  have hh := h.mem B _ hB
  have hown : ∀ j, St.own ⟨st.sl, (st.nx, some (.row E sz n (arr.toList.take (n * sz)))) :: st.ow, st.nx + 1, st.M.wo B, st.nt, st.G⟩ j = if j = st.nx then some (.row E sz n (arr.toList.take (n * sz))) else st.own j := fun j => by
    have := own_add st (.row E sz n (arr.toList.take (n * sz))) j
    exact this
  have old : ∀ i e b, st.own i = some e → ob (ρ i) = some b → b ≠ B := fun i e b hi hb e' => by
    subst e'
    have := h.msep i e b hi hb
    rw [this] at hB; cases hB
  refine ⟨h.below, h.size, ?_, ?_, ?_, ?_, ?_, ?_, ?_⟩
  · intro b o hb
    simp only [Mem.wo] at hb
    split at hb
    · cases hb
    · exact h.mem b o hb
  · intro i e hi
    rw [hown] at hi
    split at hi
    · rename_i e1
      cases hi
      subst e1
      refine ⟨Nat.lt_succ_self _, trivial, ⟨?_, ?_⟩, h1⟩
      · rw [List.length_take, Array.length_toList, hs]
        exact Nat.min_eq_left (Nat.mul_le_mul_right _ hn)
      · exact .inr ⟨B, c, arr, upd_same _ _ _, hnB, hh, hn, hc, hs, rfl⟩
    · obtain ⟨k1, k2, k3⟩ := h.own i e hi
      exact ⟨Nat.lt_succ_of_lt k1, e.sc_mono (Nat.le_succ _) k2, k3.keep (agree_upd ρ st.nx _) k1 k2 fun _ _ => rfl⟩
  · intro i j ei ej hi hj hij b hbi hbj
    rw [hown] at hi hj
    split at hi
    · rename_i e1
      subst e1
      rw [upd_same] at hbi
      cases hbi
      rw [if_neg (fun e => hij e.symm)] at hj
      rw [agree_upd ρ st.nx _ j (h.own j ej hj).1] at hbj
      exact old j ej B hj hbj rfl
    · rename_i e1
      rw [agree_upd ρ st.nx _ i (h.own i ei hi).1] at hbi
      split at hj
      · rename_i e2
        subst e2
        rw [upd_same] at hbj
        cases hbj
        exact old i ei B hi hbi rfl
      · rw [agree_upd ρ st.nx _ j (h.own j ej hj).1] at hbj
        exact h.sep i j ei ej hi hj hij b hbi hbj
  · intro i e b hi hb
    rw [hown] at hi
    split at hi
    · rename_i e1
      subst e1
      rw [upd_same] at hb
      cases hb
      simp [Mem.wo]
    · rw [agree_upd ρ st.nx _ i (h.own i e hi).1] at hb
      show (if b = B then none else st.M b) = none
      rw [if_neg (old i e b hi hb)]
      exact h.msep i e b hi hb
  · intro b o hb
    obtain ⟨k1, k2, k3⟩ := h.pin b o hb
    refine ⟨k1, k2, ?_⟩
    show (if b = B then none else st.M b) = none
    split
    · rfl
    · exact k3
  · intro b hb
    show (if b = B then none else st.M b) = M₀ b
    rw [if_neg (by omega)]
    exact h.mlow b hb
  · intro b o hb
    obtain ⟨k1, k2⟩ := h.fpin b o hb
    refine ⟨k1, fun i e hi hbi => ?_⟩
    rw [hown] at hi
    split at hi
    · rename_i e1
      subst e1
      rw [upd_same] at hbi
      cases hbi
      have hb' : st.G.f B = some o := hb
      rw [hf] at hb'; cases hb'
    · rw [agree_upd ρ st.nx _ i (h.own i e hi).1] at hbi
      exact k2 i e hi hbi
/-- A call by its contract; then a marked block is one's own again, and a variable's cells refer to it. -/
theorem VCall.thaw {f : Nat} {vs : List Value} {st : St} {K : SV → St → Prop} {M : Mem} {R : List Value → Mem → Prop} (hF : Fn P f vs M R) (hM : st.M = M) {g B : Nat} (hg : st.own g = some (.nw B)) {arr : Array Value} {E sz n c : Nat}
    (hB : M B = some (.cells arr E (0, 0))) (hf : st.G.f B = none) (hn : n ≤ c) (hc : c ≤ maxLen) (hs : arr.size = c * sz) {xs : List Value} (hx : arr.toList.take (n * sz) = xs) (h1 : ∀ v ∈ xs, v.oneCell' = true)
    {i bt : Nat} {cs : List SV} (cs' : List SV) (hi : st.own i = some (.box bt cs)) (hcs : cs'.map (SV.sub st.nx (.slice (some ⟨B, 0, none⟩) n c) B) = cs) (hcb : cs'.all (SVB (st.nx + 1)) = true)
    (hK : ∀ rs M', M.le M' → R rs M' → st.dK fun sl ow nx _ nt G => K (retSV rs) ⟨sl, (i, some (.box bt cs')) :: (nx, some (.row E sz n xs)) :: ow, nx + 1, M'.wo B, nt, G⟩) : VCall P f (vs.map .v) st K := by
  subst hM
  subst hx
  refine ⟨hF.1, fun n₀ w M₀ ρ W hS hsa hss => ?_⟩
  have e : (vs.map SV.v).map (SV.den ρ) = vs := by rw [List.map_map]; exact (List.map_congr_left fun _ _ => rfl).trans (List.map_id vs)
  rw [e]
  refine (hF.2 W hS.mem).mono ?_
  rintro e W' ⟨rs, M', rfl, g2, g3, g4, g5, g6⟩
  have hh := (hS.grow g2 g4 g5).thaw hg (g3 _ _ hB) hf hn hc hs h1
  have hin := (hS.own i _ hi).1
  have hi2 : St.own ⟨st.sl, (st.nx, some (.row E sz n (arr.toList.take (n * sz)))) :: st.ow, st.nx + 1, M'.wo B, st.nt, st.G⟩ i = some (.box bt cs) := by
    have := own_add st (.row E sz n (arr.toList.take (n * sz))) i
    rw [if_neg (by omega)] at this
    exact this.trans hi
  obtain ⟨_, _, B5, b1, b2, b3⟩ := hh.own i _ hi2
  have hcd : cs'.map (SV.den (upd ρ st.nx (.slice (some ⟨B, 0, none⟩) n c))) = cs.map (SV.den (upd ρ st.nx (.slice (some ⟨B, 0, none⟩) n c))) := by
    rw [← hcs, List.map_map]
    refine List.map_congr_left fun s _ => ?_
    have := SV.sub_den (ρ := upd ρ st.nx (.slice (some ⟨B, 0, none⟩) n c)) (id := st.nx) (x := .slice (some ⟨B, 0, none⟩) n c) (B := B) (by rw [upd_same]; rfl) (by rw [upd_same]; rfl) s
    exact this.symm
  have h3 := hh.set (W' := W') (e' := .box bt cs') hi2 ⟨rfl, rfl, rfl, Nat.le_refl _, fun _ _ _ => rfl⟩ (fun s hs => SVB_spec (List.all_eq_true.1 hcb s hs)) ⟨B5, b1, b2, by rw [b3, hcd]⟩
  refine ⟨retSV rs, _, _, by rw [retSV_den], retSV_sc _ _, h3, fun d s hd => ?_, rfl, rfl, dK_iff (hK rs M' g3 g6)⟩
  have hs := hss d s hd
  exact ⟨SV.sc_mono (Nat.le_succ _) hs, s, hd, SV.den_agree (agree_upd ρ st.nx _) hs⟩
end Go.V

/- Contracts of chart: lines. -/
namespace Go.Proofs.YtegmjmdkhbibjaaGreat
open Go Go.V Go.RowKit
theorem pathOK_id {l : LinS} (h : idOK l.id = false) : pathOK l = false := by unfold pathOK; rw [h]; rfl
theorem pathOK_len {l : LinS} (h : ¬ (2 ≤ l.ps.length ∧ l.ps.length ≤ 64)) : pathOK l = false := by unfold pathOK; rw [decide_eq_false h, Bool.and_false]; rfl
theorem pathOK_pl {l : LinS} (h : l.ps.all placeB = false) : pathOK l = false := by unfold pathOK; rw [h, Bool.and_false]; rfl
theorem comp_lt {ps : List Pt} : ∀ {k i : Nat}, i < k → keepB ps i = false → (comp ps k).length < k := by
  intro k i hik hi
  have h1 := comp_le ps (j := i + 1) (k := k) (by omega)
  have h2 := comp_len ps i
  rw [comp_succ, if_neg (by rw [hi]; exact Bool.false_ne_true)] at h1
  omega
theorem compact_len (ps : List Pt) : decide (((compactP ps).length : Int) = ps.length) = (List.range ps.length).all (keepB ps) := by
  unfold compactP
  by_cases h : (List.range ps.length).all (keepB ps) = true
  · rw [h, comp_all ps ps.length (Nat.le_refl _) (all_iff.1 h)]
    simp
  · have h : (List.range ps.length).all (keepB ps) = false := by simpa using h
    rw [h]
    have h' : ¬ ∀ i, i < ps.length → keepB ps i = true := fun hh => by rw [all_true hh] at h; cases h
    obtain ⟨i, hi⟩ := Classical.not_forall.1 h'
    obtain ⟨hi1, hi2⟩ := Classical.not_imp.1 hi
    have := comp_lt hi1 (by simpa using hi2)
    exact decide_eq_false (by omega)
set_option maxRecDepth 20000 in
set_option maxHeartbeats 2000000 in
theorem isLine_fn (l : LinS) (v : Value) (M : Mem) (hv : Pts M v l.ps) (h64 : i64P l.ps) : V.Fn Tryz.prog 69 [.agg #[.int .i64 l.id, v]] M fun rs _ => rs = [.bool (pathOK l)] := by
  obtain ⟨ad, c, rfl⟩ := hv.shape
  refine Fn.of_vc cxIOK Tryz.func69 rfl rfl rfl ?_
  repeat (first | refine VIf.tt ?_ | refine VIf.ff ?_)
  refine VOwn.frz ?_
  repeat (first | refine VIf.tt ?_ | refine VIf.ff ?_)
  refine VFn.p (isID_fn _ _) ?_
  repeat (first | refine VIf.tt ?_ | refine VIf.ff ?_)
  refine VIf.mk (fun h1 => ?_) (fun h1 => ?_)
  · repeat (first | refine VIf.tt ?_ | refine VIf.ff ?_)
    exact VFact.mk (by rw [pathOK_id (by simpa using h1)]) trivial
  repeat (first | refine VIf.tt ?_ | refine VIf.ff ?_)
  refine VIf.mk (fun h2 => ?_) (fun h2 => ?_)
  · have h2 := of_decide_eq_true h2
    repeat (first | refine VIf.tt ?_ | refine VIf.ff ?_)
    exact VFact.mk (by rw [pathOK_len (by omega)]) trivial
  repeat (first | refine VIf.tt ?_ | refine VIf.ff ?_)
  refine VIf.mk (fun h3 => ?_) (fun h3 => ?_)
  · have h3 := of_decide_eq_true h3
    repeat (first | refine VIf.tt ?_ | refine VIf.ff ?_)
    exact VFact.mk (by rw [pathOK_len (by omega)]) trivial
  have h2 := of_decide_eq_false h2
  have h3 := of_decide_eq_false h3
  have hl : 2 ≤ l.ps.length ∧ l.ps.length ≤ 64 := by omega
  have h1 : idOK l.id = true := by simpa using h1
  repeat (first | refine VIf.tt ?_ | refine VIf.ff ?_)
  refine VDraw.code ?_
  repeat (first | refine VIf.tt ?_ | refine VIf.ff ?_)
  refine VCode.draws cxIOK [1] (by kernel_rfl) (Mem × Bool) (fun s => ⟨[(2, .v (.bool s.2))], [], 1, s.1, 34, ⟨fun _ => none, none, fun _ => none⟩⟩) (fun s => s.2 = pathOK l) ?_ ?_
  · repeat (first | refine VIf.tt ?_ | refine VIf.ff ?_)
    refine VFzB.mk fun z1 B1 M1 hM1 hB1 => ?_
    have hB1 : M1 B1 = some (.cells #[.int .i64 l.id, .slice ad l.ps.length c] 73 (0, 0)) := hB1
    repeat (first | refine VIf.tt ?_ | refine VIf.ff ?_)
    refine VRead.mk (.slice ad l.ps.length c) (cellAt hB1 1 rfl) ?_
    repeat (first | refine VIf.tt ?_ | refine VIf.ff ?_)
    repeat (first | refine VIf.tt ?_ | refine VIf.ff ?_)
    refine VOwn.frz ?_
    repeat (first | refine VIf.tt ?_ | refine VIf.ff ?_)
    refine VFn.mk _ (ContainsPm_fn _ l.ps _ (fun p => !placeB p) M1 (hv.le hM1) fun i hi M' => isLine1_fn _ M' (h64 i hi).1 (h64 i hi).2) ?_
    rintro rs M2 hM2 rfl
    repeat (first | refine VIf.tt ?_ | refine VIf.ff ?_)
    refine VFact.mk hM2 ?_
    have eall : (l.ps.any fun p => !placeB p) = !l.ps.all placeB := by rw [List.not_all_eq_any_not]
    repeat (first | refine VIf.tt ?_ | refine VIf.ff ?_)
    refine VIf.mk (fun hc => ?_) (fun hc => ?_)
    rotate_left
    · repeat (first | refine VIf.tt ?_ | refine VIf.ff ?_)
      exact ⟨(M2, false), (pathOK_pl (by rw [eall] at hc; simpa using hc)).symm, (Wk.mk' id (by repeat' constructor) (by repeat' constructor) (injOK_id _) rfl rfl rfl)⟩
    have hall : l.ps.all placeB = true := by rw [eall] at hc; simpa using hc
    repeat (first | refine VIf.tt ?_ | refine VIf.ff ?_)
    refine VRead.mk (.slice ad l.ps.length c) (cellAt hB1 1 rfl) ?_
    repeat (first | refine VIf.tt ?_ | refine VIf.ff ?_)
    refine VRead.mk (.slice ad l.ps.length c) (cellAt hB1 1 rfl) ?_
    repeat (first | refine VIf.tt ?_ | refine VIf.ff ?_)
    repeat (first | refine VIf.tt ?_ | refine VIf.ff ?_)
    refine VOwn.own ?_
    refine VCall.ofRowM (Clone_row _ l.ps M2 (hv.le (hM1.trans hM2)) (by omega) (by omega)) rfl ?_
    rintro n1 xs1 M3 hM3 ⟨rfl, rfl⟩
    repeat (first | refine VIf.tt ?_ | refine VIf.ff ?_)
    refine VFact.mk (hM2.trans hM3) ?_
    repeat (first | refine VIf.tt ?_ | refine VIf.ff ?_)
    repeat (first | refine VIf.tt ?_ | refine VIf.ff ?_)
    refine VOwn.own ?_
    refine VCall.pl [(23, .bool true), (31, .int .i64 l.ps.length)] (by repeat' constructor) ?_
    refine VCall.wk (st1 := ⟨[], [(0, some (.row 46 2 l.ps.length (cellsP l.ps)))], 1, M3, 34, ⟨fun _ => none, none, fun _ => none⟩⟩) (args1 := [.row 0]) (fun _ => 1) rfl rfl trivial (by repeat' constructor) (injOK_one _ _ _) rfl rfl rfl ?_
    refine VCall.frzR ?_
    refine Compact_call (ps := l.ps) rfl rfl (by omega) ?_
    refine ⟨0, _, _, _, _, rfl, rfl, rfl, fun x M4 hM4 hx => ?_⟩
    obtain ⟨xa, xc, rfl, _⟩ := hx
    repeat (first | refine VIf.tt ?_ | refine VIf.ff ?_)
    refine VFact.mk (hM2.trans (hM3.trans hM4)) ?_
    repeat (first | refine VIf.tt ?_ | refine VIf.ff ?_)
    refine ⟨(M4, decide (((compactP l.ps).length : Int) = l.ps.length)), ?_, (Wk.mk' id (by repeat' constructor) (by repeat' constructor) (injOK_id _) rfl rfl rfl)⟩
    show decide (((compactP l.ps).length : Int) = l.ps.length) = pathOK l
    rw [compact_len]
    unfold pathOK
    rw [h1, decide_eq_true hl, hall]
    simp
  · rintro ⟨M2, b⟩ m rfl
    repeat (first | refine VIf.tt ?_ | refine VIf.ff ?_)
    exact VFact.mk rfl trivial
end Go.Proofs.YtegmjmdkhbibjaaGreat

/- Contracts of chart: names. -/
namespace Go.Proofs.YtegmjmdkhbibjaaGreat
open Go Go.V Go.RowKit
set_option maxRecDepth 20000 in
set_option maxHeartbeats 2000000 in
theorem namedBea_fn (v : Value) (l : List BeaS) (M : Mem) (hv : BeasV M v l) :
    V.Fn Tryz.prog 66 [v, .int .i64 100, .func (.func 65) #[] #[], .func (.func 67) #[] #[]] M fun rs _ => rs = [.bool (beasOK l)] := by
  obtain ⟨ad, c, rfl, hm, hrd⟩ := hv.get
  have hml : l.length ≤ maxLen := by
    obtain ⟨_, _, _, ⟨_, _, _, h1, h2, _⟩, _⟩ := hv
    exact Nat.le_trans h1 h2
  refine Fn.of_vc cxOK Tryz.func66 rfl rfl rfl ?_
  refine VMapMk.mk 3 4 (by kernel_rfl) (by kernel_rfl) (by kernel_rfl) (by kernel_rfl) fun B => ?_
  repeat (first | refine VIf.tt ?_ | refine VIf.ff ?_)
  refine VCode.loop cxOK (Nat × List Int × Mem) (fun (⟨i, ks, M1⟩ : Nat × List Int × Mem) => ⟨[(0, .v (.slice ad l.length c)), (1, .v (.int .i64 100)), (2, .v (.func (.func 65) #[] #[])), (3, .v (.func (.func 67) #[] #[])), (9, .v (.map (some B))), (13, .v (.slice ad l.length c)), (14, .v (.int .i64 l.length)), (15, .v (.int .i64 i))], [(0, some (.mp Tryz.prog 63 3 4 B ks))], 1, M1, 39, ⟨fun _ => none, none, fun _ => none⟩⟩)
    (fun (⟨i, ks, M1⟩ : Nat × List Int × Mem) => (M.le M1 ∧ i ≤ l.length ∧ ks.length = i) ∧ (∀ x, x ∈ ks ↔ ∃ j, j < i ∧ (gbe l j).id = x) ∧ ∀ j, j < i → beaOK (gbe l j) = true ∧ ∀ k, k < j → (gbe l k).id ≠ (gbe l j).id) (fun (⟨i, _, _⟩ : Nat × List Int × Mem) => l.length - i) (0, [], M)
    ⟨⟨Mem.le_refl _, Nat.zero_le _, rfl⟩, fun x => ⟨fun h => by simp at h, fun ⟨j, hj, _⟩ => absurd hj (Nat.not_lt_zero _)⟩, fun j hj => absurd hj (Nat.not_lt_zero _)⟩ (Wk.mk' id (by repeat' constructor) (by repeat' constructor) (injOK_id _) rfl rfl rfl) ?_
  rintro ⟨i, ks, M1⟩ ⟨⟨hM1, hi, hks⟩, hmem, hok⟩ m
  repeat (first | refine VIf.tt ?_ | refine VIf.ff ?_)
  refine VIf.mk (fun hlt => ?_) (fun hge => ?_)
  · have hlt : i < l.length := lt_of_dec hlt
    obtain ⟨ad', rfl, h64, hp⟩ := hrd M1 hM1 i hlt
    repeat (first | refine VIf.tt ?_ | refine VIf.ff ?_)
    refine VIdx.mk ad' i rfl rfl hlt ?_
    repeat (first | refine VIf.tt ?_ | refine VIf.ff ?_)
    refine VReads.mk [.int .i64 (gbe l i).id, .int .i64 (gbe l i).x, .int .i64 (gbe l i).y] rfl hp ?_
    repeat (first | refine VIf.tt ?_ | refine VIf.ff ?_)
    refine VFn.mk _ (chValid2_fn (gbe l i) M1 h64) ?_
    rintro rs M2 hM2 rfl
    repeat (first | refine VIf.tt ?_ | refine VIf.ff ?_)
    refine VIf.mk (fun hr => ?_) (fun hr => ?_)
    · repeat (first | refine VIf.tt ?_ | refine VIf.ff ?_)
      refine VFact.mk ?_ trivial
      have : beasOK l = false := by unfold beasOK; rw [nmdB_bad hlt (.inl (by simpa using hr))]; rfl
      rw [this]
    have hr : beaOK (gbe l i) = true := by simpa using hr
    repeat (first | refine VIf.tt ?_ | refine VIf.ff ?_)
    refine VFn.p (beaconID_fn (gbe l i) M2) ?_
    repeat (first | refine VIf.tt ?_ | refine VIf.ff ?_)
    refine VFact.mk ⟨⟨rfl, rfl, rfl⟩, h64.1⟩ ?_
    repeat (first | refine VIf.tt ?_ | refine VIf.ff ?_)
    refine VIf.mk (fun hd => ?_) (fun hd => ?_)
    · repeat (first | refine VIf.tt ?_ | refine VIf.ff ?_)
      refine VFact.mk ?_ trivial
      have : beasOK l = false := by unfold beasOK; rw [nmdB_bad hlt (.inr ((hmem _).1 (of_decide_eq_true hd)))]; rfl
      rw [this]
    have hd := of_decide_eq_false hd
    repeat (first | refine VIf.tt ?_ | refine VIf.ff ?_)
    refine VFn.p (beaconID_fn (gbe l i) M2) ?_
    repeat (first | refine VIf.tt ?_ | refine VIf.ff ?_)
    refine VFact.mk ⟨⟨rfl, rfl, rfl⟩, h64.1, by omega⟩ ?_
    repeat (first | refine VIf.tt ?_ | refine VIf.ff ?_)
    refine VArith.ok (by first | omega | (simp only; omega)) (by first | omega | (simp only; omega)) ?_
    refine ⟨(i + 1, (gbe l i).id :: ks, M2), ⟨⟨hM1.trans hM2, hlt, by simp [hks]⟩, fun x => ?_, fun j hj => ?_⟩, (by first | omega | (simp only; omega)), (Wk.mk' id (by repeat' constructor) (by repeat' constructor) (injOK_id _) rfl rfl rfl)⟩
    · rw [List.mem_cons, hmem]
      constructor
      · rintro (rfl | ⟨j, hj, e⟩)
        · exact ⟨i, Nat.lt_succ_self _, rfl⟩
        · exact ⟨j, by omega, e⟩
      · rintro ⟨j, hj, e⟩
        by_cases ej : j = i
        · subst ej; exact .inl e.symm
        · exact .inr ⟨j, by omega, e⟩
    · by_cases ej : j = i
      · subst ej
        exact ⟨hr, fun k hk e => hd ((hmem _).2 ⟨k, hk, e⟩)⟩
      · exact hok j (by omega)
  · have : i = l.length := by have := ge_of_dec hge; omega
    subst this
    repeat (first | refine VIf.tt ?_ | refine VIf.ff ?_)
    refine VFact.mk ?_ trivial
    have : beasOK l = decide (l.length ≤ 100) := by unfold beasOK; rw [nmdB_iff.2 hok, Bool.true_and]
    rw [this]
    exact bool1 (by simp only [decide_eq_true_eq]; omega)
set_option maxRecDepth 20000 in
set_option maxHeartbeats 2000000 in
theorem namedLin_fn (v : Value) (l : List LinS) (M : Mem) (hv : LinsV M v l) :
    V.Fn Tryz.prog 68 [v, .int .i64 50, .func (.func 69) #[] #[], .func (.func 70) #[] #[]] M fun rs _ => rs = [.bool (linsOK l)] := by
  obtain ⟨ad, c, rfl, hm, hrd⟩ := hv.get
  have hml : l.length ≤ maxLen := by
    obtain ⟨_, _, _, ⟨_, _, _, h1, h2, _⟩, _⟩ := hv
    exact Nat.le_trans h1 h2
  refine Fn.of_vc cxOK Tryz.func68 rfl rfl rfl ?_
  refine VMapMk.mk 3 4 (by kernel_rfl) (by kernel_rfl) (by kernel_rfl) (by kernel_rfl) fun B => ?_
  repeat (first | refine VIf.tt ?_ | refine VIf.ff ?_)
  refine VCode.loop cxOK (Nat × List Int × Mem) (fun (⟨i, ks, M1⟩ : Nat × List Int × Mem) => ⟨[(0, .v (.slice ad l.length c)), (1, .v (.int .i64 50)), (2, .v (.func (.func 69) #[] #[])), (3, .v (.func (.func 70) #[] #[])), (9, .v (.map (some B))), (13, .v (.slice ad l.length c)), (14, .v (.int .i64 l.length)), (15, .v (.int .i64 i))], [(0, some (.mp Tryz.prog 63 3 4 B ks))], 1, M1, 39, ⟨fun _ => none, none, fun _ => none⟩⟩)
    (fun (⟨i, ks, M1⟩ : Nat × List Int × Mem) => (M.le M1 ∧ i ≤ l.length ∧ ks.length = i) ∧ (∀ x, x ∈ ks ↔ ∃ j, j < i ∧ (gli l j).id = x) ∧ ∀ j, j < i → pathOK (gli l j) = true ∧ ∀ k, k < j → (gli l k).id ≠ (gli l j).id) (fun (⟨i, _, _⟩ : Nat × List Int × Mem) => l.length - i) (0, [], M)
    ⟨⟨Mem.le_refl _, Nat.zero_le _, rfl⟩, fun x => ⟨fun h => by simp at h, fun ⟨j, hj, _⟩ => absurd hj (Nat.not_lt_zero _)⟩, fun j hj => absurd hj (Nat.not_lt_zero _)⟩ (Wk.mk' id (by repeat' constructor) (by repeat' constructor) (injOK_id _) rfl rfl rfl) ?_
  rintro ⟨i, ks, M1⟩ ⟨⟨hM1, hi, hks⟩, hmem, hok⟩ m
  repeat (first | refine VIf.tt ?_ | refine VIf.ff ?_)
  refine VIf.mk (fun hlt => ?_) (fun hge => ?_)
  · have hlt : i < l.length := lt_of_dec hlt
    obtain ⟨ad', w, rfl, h64, hpt, hp64, hp⟩ := hrd M1 hM1 i hlt
    obtain ⟨wa, wc, rfl⟩ := hpt.shape
    repeat (first | refine VIf.tt ?_ | refine VIf.ff ?_)
    refine VIdx.mk ad' i rfl rfl hlt ?_
    repeat (first | refine VIf.tt ?_ | refine VIf.ff ?_)
    refine VReads.mk [.int .i64 (gli l i).id, .slice wa (gli l i).ps.length wc] rfl hp ?_
    repeat (first | refine VIf.tt ?_ | refine VIf.ff ?_)
    refine VFn.mk _ (isLine_fn (gli l i) _ M1 hpt hp64) ?_
    rintro rs M2 hM2 rfl
    repeat (first | refine VIf.tt ?_ | refine VIf.ff ?_)
    refine VIf.mk (fun hr => ?_) (fun hr => ?_)
    · repeat (first | refine VIf.tt ?_ | refine VIf.ff ?_)
      refine VFact.mk ?_ trivial
      have : linsOK l = false := by unfold linsOK; rw [nmdB_bad hlt (.inl (by simpa using hr))]; rfl
      rw [this]
    have hr : pathOK (gli l i) = true := by simpa using hr
    repeat (first | refine VIf.tt ?_ | refine VIf.ff ?_)
    refine VFn.p (lineID_fn (gli l i).id _ M2) ?_
    repeat (first | refine VIf.tt ?_ | refine VIf.ff ?_)
    refine VFact.mk ⟨⟨rfl, rfl, rfl⟩, h64⟩ ?_
    repeat (first | refine VIf.tt ?_ | refine VIf.ff ?_)
    refine VIf.mk (fun hd => ?_) (fun hd => ?_)
    · repeat (first | refine VIf.tt ?_ | refine VIf.ff ?_)
      refine VFact.mk ?_ trivial
      have : linsOK l = false := by unfold linsOK; rw [nmdB_bad hlt (.inr ((hmem _).1 (of_decide_eq_true hd)))]; rfl
      rw [this]
    have hd := of_decide_eq_false hd
    repeat (first | refine VIf.tt ?_ | refine VIf.ff ?_)
    refine VFn.p (lineID_fn (gli l i).id _ M2) ?_
    repeat (first | refine VIf.tt ?_ | refine VIf.ff ?_)
    refine VFact.mk ⟨⟨rfl, rfl, rfl⟩, h64, by omega⟩ ?_
    repeat (first | refine VIf.tt ?_ | refine VIf.ff ?_)
    refine VArith.ok (by first | omega | (simp only; omega)) (by first | omega | (simp only; omega)) ?_
    refine ⟨(i + 1, (gli l i).id :: ks, M2), ⟨⟨hM1.trans hM2, hlt, by simp [hks]⟩, fun x => ?_, fun j hj => ?_⟩, (by first | omega | (simp only; omega)), (Wk.mk' id (by repeat' constructor) (by repeat' constructor) (injOK_id _) rfl rfl rfl)⟩
    · rw [List.mem_cons, hmem]
      constructor
      · rintro (rfl | ⟨j, hj, e⟩)
        · exact ⟨i, Nat.lt_succ_self _, rfl⟩
        · exact ⟨j, by omega, e⟩
      · rintro ⟨j, hj, e⟩
        by_cases ej : j = i
        · subst ej; exact .inl e.symm
        · exact .inr ⟨j, by omega, e⟩
    · by_cases ej : j = i
      · subst ej
        exact ⟨hr, fun k hk e => hd ((hmem _).2 ⟨k, hk, e⟩)⟩
      · exact hok j (by omega)
  · have : i = l.length := by have := ge_of_dec hge; omega
    subst this
    repeat (first | refine VIf.tt ?_ | refine VIf.ff ?_)
    refine VFact.mk ?_ trivial
    have : linsOK l = decide (l.length ≤ 50) := by unfold linsOK; rw [nmdB_iff.2 hok, Bool.true_and]
    rw [this]
    exact bool1 (by simp only [decide_eq_true_eq]; omega)
end Go.Proofs.YtegmjmdkhbibjaaGreat

/- Contracts of chart: Valid. -/
namespace Go.Proofs.YtegmjmdkhbibjaaGreat
open Go Go.V Go.RowKit
theorem idOK_iff {n : Int} : idOK n = true ↔ 1 ≤ n ∧ n ≤ 1000000 := by unfold idOK; exact decide_eq_true_iff
theorem mulb {a b : Int} (A B : Int) (ha : 0 ≤ a ∧ a ≤ A) (hb : 0 ≤ b ∧ b ≤ B) : 0 ≤ a * b ∧ a * b ≤ A * B :=
  ⟨Int.mul_nonneg ha.1 hb.1, Int.mul_le_mul ha.2 hb.2 hb.1 (by omega)⟩
set_option maxRecDepth 20000 in
set_option maxHeartbeats 2000000 in
theorem chValid_fn (c : ChartS) (a b d : Value) (M : Mem) (h : Cha M c a b d) : V.Fn Tryz.prog 49 [chV c a b d] M fun rs _ => rs = [.bool (validC c)] := by
  obtain ⟨⟨ad, ka, rfl⟩, ⟨bd, kb, rfl⟩, dd, kd, rfl⟩ := h.shape
  obtain ⟨r1, r2, r3, r4, r5, r6⟩ := h.r
  unfold i64r at r1 r2 r3 r4 r5 r6
  have hcl : c.cs.length ≤ 9223372036854775807 := by obtain ⟨_, _, _, q, _⟩ := h.cs.get; exact q
  refine Fn.of_vc cxOK Tryz.func49 rfl rfl rfl ?_
  repeat (first | refine VIf.tt ?_ | refine VIf.ff ?_)
  refine VFn.p (isID_fn _ _) ?_
  repeat (first | refine VIf.tt ?_ | refine VIf.ff ?_)
  refine VIf.mk (fun e => ?_) (fun e => ?_)
  · have e : ¬ (1 ≤ c.ver ∧ c.ver ≤ 1000000) := fun h => by rw [idOK_iff.2 h] at e; cases e
    repeat (first | refine VIf.tt ?_ | refine VIf.ff ?_)
    exact VFact.mk (by rw [validC_not (fun h => e h.1.1)]) trivial
  have e0 := idOK_iff.1 ((Bool.not_eq_false' _).mp e)
  clear e
  repeat (first | refine VIf.tt ?_ | refine VIf.ff ?_)
  refine VIf.mk (fun e1 => ?_) (fun e1 => ?_)
  · have e := of_decide_eq_true e1
    repeat (first | refine VIf.tt ?_ | refine VIf.ff ?_)
    exact VFact.mk (by rw [validC_not (fun h => by unfold frameC at h; omega)]) trivial
  have e1 := of_decide_eq_false e1
  repeat (first | refine VIf.tt ?_ | refine VIf.ff ?_)
  refine VIf.mk (fun e2 => ?_) (fun e2 => ?_)
  · have e := of_decide_eq_true e2
    repeat (first | refine VIf.tt ?_ | refine VIf.ff ?_)
    exact VFact.mk (by rw [validC_not (fun h => by unfold frameC at h; omega)]) trivial
  have e2 := of_decide_eq_false e2
  repeat (first | refine VIf.tt ?_ | refine VIf.ff ?_)
  refine VIf.mk (fun e3 => ?_) (fun e3 => ?_)
  · have e := of_decide_eq_true e3
    repeat (first | refine VIf.tt ?_ | refine VIf.ff ?_)
    exact VFact.mk (by rw [validC_not (fun h => by unfold frameC at h; omega)]) trivial
  have e3 := of_decide_eq_false e3
  repeat (first | refine VIf.tt ?_ | refine VIf.ff ?_)
  refine VIf.mk (fun e4 => ?_) (fun e4 => ?_)
  · have e := of_decide_eq_true e4
    repeat (first | refine VIf.tt ?_ | refine VIf.ff ?_)
    exact VFact.mk (by rw [validC_not (fun h => by unfold frameC at h; omega)]) trivial
  have e4 := of_decide_eq_false e4
  have hwh := mulb (a := c.w) (b := c.h) 4000 4000 (by omega) (by omega)
  repeat (first | refine VIf.tt ?_ | refine VIf.ff ?_)
  refine VArith.ok (by first | omega | (simp only; omega)) (by first | omega | (simp only; omega)) ?_
  repeat (first | refine VIf.tt ?_ | refine VIf.ff ?_)
  refine VIf.mk (fun e5 => ?_) (fun e5 => ?_)
  · have e : c.w * c.h ≠ c.cs.length := fun e => by simp [e] at e5
    repeat (first | refine VIf.tt ?_ | refine VIf.ff ?_)
    exact VFact.mk (by rw [validC_not (fun h => by unfold frameC at h; omega)]) trivial
  have e5 : c.w * c.h = c.cs.length := by simpa using e5
  repeat (first | refine VIf.tt ?_ | refine VIf.ff ?_)
  refine VIf.mk (fun e6 => ?_) (fun e6 => ?_)
  · have e := of_decide_eq_true e6
    repeat (first | refine VIf.tt ?_ | refine VIf.ff ?_)
    exact VFact.mk (by rw [validC_not (fun h => by unfold frameC at h; omega)]) trivial
  have e6 := of_decide_eq_false e6
  repeat (first | refine VIf.tt ?_ | refine VIf.ff ?_)
  refine VIf.mk (fun e7 => ?_) (fun e7 => ?_)
  · have e := of_decide_eq_true e7
    repeat (first | refine VIf.tt ?_ | refine VIf.ff ?_)
    exact VFact.mk (by rw [validC_not (fun h => by unfold frameC at h; omega)]) trivial
  have e7 := of_decide_eq_false e7
  repeat (first | refine VIf.tt ?_ | refine VIf.ff ?_)
  refine VIf.mk (fun e8 => ?_) (fun e8 => ?_)
  · have e := of_decide_eq_true e8
    repeat (first | refine VIf.tt ?_ | refine VIf.ff ?_)
    exact VFact.mk (by rw [validC_not (fun h => by unfold frameC at h; omega)]) trivial
  have e8 := of_decide_eq_false e8
  repeat (first | refine VIf.tt ?_ | refine VIf.ff ?_)
  refine VFn.mk _ (chartPlace_fn (c.x, c.y) _ h.r.2.1 h.r.2.2.1) ?_
  rintro rs M1 hM1 rfl
  repeat (first | refine VIf.tt ?_ | refine VIf.ff ?_)
  refine VIf.mk (fun e9 => ?_) (fun e9 => ?_)
  · repeat (first | refine VIf.tt ?_ | refine VIf.ff ?_)
    exact VFact.mk (by rw [validC_not (fun h => by rw [h.2.1] at e9; cases e9)]) trivial
  have e9 : placeB (c.x, c.y) = true := (Bool.not_eq_false' _).mp e9
  have hxy := e9
  simp only [placeB, Bool.and_eq_true] at hxy
  have b1 := isCb_bd hxy.1
  have b2 := isCb_bd hxy.2
  have hws := mulb (a := c.w) (b := c.sz) 4000 10000 (by omega) (by omega)
  have hhs := mulb (a := c.h) (b := c.sz) 4000 10000 (by omega) (by omega)
  repeat (first | refine VIf.tt ?_ | refine VIf.ff ?_)
  refine VArith.ok (by first | omega | (simp only; omega)) (by first | omega | (simp only; omega)) ?_
  repeat (first | refine VIf.tt ?_ | refine VIf.ff ?_)
  refine VArith.ok (by first | omega | (simp only; omega)) (by first | omega | (simp only; omega)) ?_
  repeat (first | refine VIf.tt ?_ | refine VIf.ff ?_)
  refine VArith.ok (by first | omega | (simp only; omega)) (by first | omega | (simp only; omega)) ?_
  repeat (first | refine VIf.tt ?_ | refine VIf.ff ?_)
  refine VArith.ok (by first | omega | (simp only; omega)) (by first | omega | (simp only; omega)) ?_
  repeat (first | refine VIf.tt ?_ | refine VIf.ff ?_)
  refine VArith.ok (by first | omega | (simp only; omega)) (by first | omega | (simp only; omega)) ?_
  repeat (first | refine VIf.tt ?_ | refine VIf.ff ?_)
  refine VArith.ok (by first | omega | (simp only; omega)) (by first | omega | (simp only; omega)) ?_
  repeat (first | refine VIf.tt ?_ | refine VIf.ff ?_)
  refine VFn.mk _ (chartPlace_fn (c.x + c.w * c.sz - 1, c.y + c.h * c.sz - 1) _ ⟨by simp only; omega, by simp only; omega⟩ ⟨by simp only; omega, by simp only; omega⟩) ?_
  rintro rs M2 hM2 rfl
  repeat (first | refine VIf.tt ?_ | refine VIf.ff ?_)
  refine VIf.mk (fun e10 => ?_) (fun e10 => ?_)
  · repeat (first | refine VIf.tt ?_ | refine VIf.ff ?_)
    exact VFact.mk (by rw [validC_not (fun h => by rw [h.2.2] at e10; cases e10)]) trivial
  have e10 : placeB (c.x + c.w * c.sz - 1, c.y + c.h * c.sz - 1) = true := (Bool.not_eq_false' _).mp e10
  have hF : frameC c := ⟨by omega, e9, e10⟩
  have hE : validC c = (c.cs.all cellOK && beasOK c.bs && linsOK c.ls) := by unfold validC; rw [decide_eq_true hF, Bool.true_and]
  rw [hE]
  have m2 := hM1.trans hM2
  repeat (first | refine VIf.tt ?_ | refine VIf.ff ?_)
  refine VFn.mk _ (ContainsCe_fn _ c.cs M2 (h.cs.le m2)) ?_
  rintro rs M3 hM3 rfl
  repeat (first | refine VIf.tt ?_ | refine VIf.ff ?_)
  refine VIf.mk (fun e11 => ?_) (fun e11 => ?_)
  · have e11 : c.cs.all cellOK = false := (Bool.not_eq_true' _).mp e11
    repeat (first | refine VIf.tt ?_ | refine VIf.ff ?_)
    exact VFact.mk (by rw [e11]; rfl) trivial
  have e11 : c.cs.all cellOK = true := (Bool.not_eq_false' _).mp e11
  rw [e11, Bool.true_and]
  repeat (first | refine VIf.tt ?_ | refine VIf.ff ?_)
  refine VFn.mk _ (namedBea_fn _ c.bs M3 (h.bs.le (m2.trans hM3))) ?_
  rintro rs M4 hM4 rfl
  repeat (first | refine VIf.tt ?_ | refine VIf.ff ?_)
  refine VIf.mk (fun e12 => ?_) (fun e12 => ?_)
  · rw [e12, Bool.true_and]
    repeat (first | refine VIf.tt ?_ | refine VIf.ff ?_)
    refine VFn.mk _ (namedLin_fn _ c.ls M4 (h.ls.le ((m2.trans hM3).trans hM4))) ?_
    rintro rs M5 hM5 rfl
    repeat (first | refine VIf.tt ?_ | refine VIf.ff ?_)
    exact VFact.mk rfl trivial
  · rw [e12]
    repeat (first | refine VIf.tt ?_ | refine VIf.ff ?_)
    exact VFact.mk rfl trivial
end Go.Proofs.YtegmjmdkhbibjaaGreat

/- The plain law of charts: the cells under a rectangle, row by row. -/
namespace Go.Proofs.YtegmjmdkhbibjaaGreat
open Go
def rgI (a b : Int) : List Int := (List.range (b + 1 - a).toNat).map fun k : Nat => a + (k : Int)
theorem rgI_mem {a b x : Int} : x ∈ rgI a b ↔ a ≤ x ∧ x ≤ b := by
  unfold rgI
  simp only [List.mem_map, List.mem_range]
  constructor
  · rintro ⟨k, hk, rfl⟩; omega
  · intro h; exact ⟨(x - a).toNat, by omega, by omega⟩
theorem rgI_nil {a b : Int} (h : b < a) : rgI a b = [] := by
  unfold rgI
  rw [show (b + 1 - a).toNat = 0 by omega]; rfl
theorem rgI_cons {a b : Int} (h : a ≤ b) : rgI a b = a :: rgI (a + 1) b := by
  unfold rgI
  rw [show (b + 1 - a).toNat = (b + 1 - (a + 1)).toNat + 1 by omega, List.range_succ_eq_map, List.map_cons, List.map_map]
  congr 1
  · omega
  · apply List.map_congr_left
    intro k _
    simp only [Function.comp]; omega
theorem rgI_lt (a b : Int) : (rgI a b).Pairwise (· < ·) := by
  unfold rgI
  refine List.pairwise_map.2 ((List.pairwise_lt_range).imp fun {i j} h => ?_)
  omega
theorem sorted_ext {l r : List Int} (hl : l.Pairwise (· < ·)) (hr : r.Pairwise (· < ·)) (h : ∀ x, x ∈ l ↔ x ∈ r) : l = r := by
  have nl : l.Nodup := hl.imp fun h => by omega
  have nr : r.Nodup := hr.imp fun h => by omega
  refine List.Perm.eq_of_pairwise (le := fun a b => a < b) (fun a b _ _ h1 h2 => by omega) hl hr ((List.perm_ext_iff_of_nodup nl nr).2 h)
/-- A row's cells; the rows from one to another. -/
def rowC (w x1 x2 y : Int) : List Int := (rgI x1 x2).map fun x => y * w + x
def rowsC (w x1 x2 y1 y2 : Int) : List Int := (rgI y1 y2).flatMap fun y => rowC w x1 x2 y
theorem rowC_cons {w x1 x2 y : Int} (h : x1 ≤ x2) : rowC w x1 x2 y = (y * w + x1) :: rowC w (x1 + 1) x2 y := by unfold rowC; rw [rgI_cons h]; rfl
theorem rowC_nil {w x1 x2 y : Int} (h : x2 < x1) : rowC w x1 x2 y = [] := by unfold rowC; rw [rgI_nil h]; rfl
theorem rowsC_cons {w x1 x2 y1 y2 : Int} (h : y1 ≤ y2) : rowsC w x1 x2 y1 y2 = rowC w x1 x2 y1 ++ rowsC w x1 x2 (y1 + 1) y2 := by unfold rowsC; rw [rgI_cons h]; rfl
theorem rowsC_nil {w x1 x2 y1 y2 : Int} (h : y2 < y1) : rowsC w x1 x2 y1 y2 = [] := by unfold rowsC; rw [rgI_nil h]; rfl
theorem rowsC_mem {w x1 x2 y1 y2 i : Int} : i ∈ rowsC w x1 x2 y1 y2 ↔ ∃ y x, (y1 ≤ y ∧ y ≤ y2) ∧ (x1 ≤ x ∧ x ≤ x2) ∧ i = y * w + x := by
  unfold rowsC rowC
  simp only [List.mem_flatMap, List.mem_map, rgI_mem]
  constructor
  · rintro ⟨y, hy, x, hx, rfl⟩; exact ⟨y, x, hy, hx, rfl⟩
  · rintro ⟨y, x, hy, hx, rfl⟩; exact ⟨y, hy, x, hx, rfl⟩
theorem rowsC_lt {w x1 x2 y1 y2 : Int} (h1 : 0 ≤ x1) (h2 : x2 ≤ w - 1) (hw : 0 ≤ w) : (rowsC w x1 x2 y1 y2).Pairwise (· < ·) := by
  unfold rowsC
  rw [List.pairwise_flatMap]
  refine ⟨fun y _ => ?_, (rgI_lt y1 y2).imp fun {y y'} hy i hi j hj => ?_⟩
  · unfold rowC
    exact List.pairwise_map.2 ((rgI_lt x1 x2).imp fun {i j} h => by omega)
  · unfold rowC at hi hj
    simp only [List.mem_map, rgI_mem] at hi hj
    obtain ⟨x, hx, rfl⟩ := hi
    obtain ⟨x', hx', rfl⟩ := hj
    have := Int.mul_le_mul_of_nonneg_right (show y + 1 ≤ y' by omega) hw
    rw [Int.add_mul] at this
    omega
theorem colC_le {fr sz p x : Int} (hs : 1 ≤ sz) (hx : 0 ≤ x) : (fr + x * sz ≤ p ↔ x ≤ colC fr sz p) ∧ (p ≤ fr + x * sz + sz - 1 ↔ colC fr sz p ≤ x) := by
  have h0 := Int.mul_nonneg hx (show 0 ≤ sz by omega)
  unfold colC
  split
  · omega
  · rename_i h
    rw [Int.tdiv_eq_ediv_of_nonneg (by omega)]
    have a1 := Int.ediv_mul_le (p - fr) (show sz ≠ 0 by omega)
    have a2 := Int.lt_ediv_add_one_mul_self (p - fr) (show 0 < sz by omega)
    generalize (p - fr) / sz = q at *
    rw [Int.add_mul] at a2
    by_cases hq : x ≤ q
    · have b1 := Int.mul_le_mul_of_nonneg_right hq (show 0 ≤ sz by omega)
      refine ⟨⟨fun _ => hq, fun _ => by omega⟩, ⟨fun hp => ?_, fun hp => ?_⟩⟩
      · refine Int.not_lt.1 fun hlt => ?_
        have b2 := Int.mul_le_mul_of_nonneg_right (show x + 1 ≤ q by omega) (show 0 ≤ sz by omega)
        rw [Int.add_mul] at b2
        omega
      · have : x = q := by omega
        subst this; omega
    · have b1 := Int.mul_le_mul_of_nonneg_right (show q + 1 ≤ x by omega) (show 0 ≤ sz by omega)
      rw [Int.add_mul] at b1
      omega
theorem decode {w y x : Int} (hy : 0 ≤ y) (hx : 0 ≤ x) (hw : x < w) : (y * w + x).tdiv w = y ∧ (y * w + x).tmod w = x := by
  have h0 := Int.mul_nonneg hy (show 0 ≤ w by omega)
  rw [Int.tdiv_eq_ediv_of_nonneg (by omega), Int.tmod_eq_emod_of_nonneg (by omega), Int.add_comm, Int.add_mul_ediv_right _ _ (by omega), Int.add_mul_emod_self_right, Int.ediv_eq_zero_of_lt hx hw, Int.emod_eq_of_lt hx hw]
  omega
theorem encode {w i : Int} (hi : 0 ≤ i) (hw : 0 < w) : 0 ≤ i.tdiv w ∧ 0 ≤ i.tmod w ∧ i.tmod w < w ∧ i = i.tdiv w * w + i.tmod w := by
  rw [Int.tdiv_eq_ediv_of_nonneg hi, Int.tmod_eq_emod_of_nonneg hi]
  have h1 := Int.emod_add_mul_ediv i w
  rw [Int.mul_comm] at h1
  exact ⟨Int.ediv_nonneg hi (by omega), Int.emod_nonneg _ (by omega), Int.emod_lt_of_pos _ hw, by omega⟩
/-- The rectangle's columns and rows. -/
def xLo (c : ChartS) (lo : Pt) : Int := max 0 (colC c.x c.sz lo.1)
def xHi (c : ChartS) (hi : Pt) : Int := min (c.w - 1) (colC c.x c.sz hi.1)
def yLo (c : ChartS) (lo : Pt) : Int := max 0 (colC c.y c.sz lo.2)
def yHi (c : ChartS) (hi : Pt) : Int := min (c.h - 1) (colC c.y c.sz hi.2)
theorem underC_mem {c : ChartS} {lo hi : Pt} {i : Int} : i ∈ underC c lo hi ↔ (0 ≤ i ∧ i < c.cs.length) ∧ meetsP lo hi (bLo c i) (bHi c i) = true := by
  unfold underC unC
  simp only [List.mem_map, List.mem_filter, List.mem_range]
  constructor
  · rintro ⟨k, ⟨hk, hm⟩, rfl⟩; exact ⟨by omega, hm⟩
  · rintro ⟨h, hm⟩
    exact ⟨i.toNat, ⟨by omega, by rw [Int.toNat_of_nonneg h.1]; exact hm⟩, by omega⟩
theorem unC_lt (c : ChartS) (lo hi : Pt) (k : Nat) : (unC c lo hi k).Pairwise (· < ·) := by
  unfold unC
  exact List.pairwise_map.2 ((List.pairwise_lt_range.filter _).imp fun {i j} h => by omega)
theorem bLo_in {c : ChartS} {y x : Int} (hy : 0 ≤ y) (hx : 0 ≤ x) (hw : x < c.w) : bLo c (y * c.w + x) = (c.x + x * c.sz, c.y + y * c.sz) := by
  obtain ⟨h1, h2⟩ := decode hy hx hw
  unfold bLo; rw [h1, h2]
theorem rows_under {c : ChartS} (h : frameC c) (lo hi : Pt) : rowsC c.w (xLo c lo) (xHi c hi) (yLo c lo) (yHi c hi) = underC c lo hi := by
  unfold frameC at h
  refine sorted_ext (rowsC_lt (by unfold xLo; omega) (by unfold xHi; omega) (by omega)) (unC_lt _ _ _ _) fun i => ?_
  rw [underC_mem, rowsC_mem]
  constructor
  · rintro ⟨y, x, ⟨a1, a2⟩, ⟨a3, a4⟩, rfl⟩
    unfold yLo at a1; unfold yHi at a2; unfold xLo at a3; unfold xHi at a4
    have hx : 0 ≤ x := by omega
    have hy : 0 ≤ y := by omega
    have m1 := Int.mul_nonneg hy (show 0 ≤ c.w by omega)
    have m2 := Int.mul_le_mul_of_nonneg_right (show y + 1 ≤ c.h by omega) (show 0 ≤ c.w by omega)
    rw [Int.add_mul, Int.mul_comm c.h] at m2
    have e := bLo_in hy hx (show x < c.w by omega)
    obtain ⟨b1, b2⟩ := colC_le (fr := c.x) (p := lo.1) (show 1 ≤ c.sz by omega) hx
    obtain ⟨b3, b4⟩ := colC_le (fr := c.x) (p := hi.1) (show 1 ≤ c.sz by omega) hx
    obtain ⟨b5, b6⟩ := colC_le (fr := c.y) (p := lo.2) (show 1 ≤ c.sz by omega) hy
    obtain ⟨b7, b8⟩ := colC_le (fr := c.y) (p := hi.2) (show 1 ≤ c.sz by omega) hy
    refine ⟨by omega, ?_⟩
    unfold meetsP bHi
    rw [e]
    simp only [Bool.and_eq_true, decide_eq_true_eq]
    exact ⟨⟨⟨b2.2 (by omega), b3.2 (by omega)⟩, b6.2 (by omega)⟩, b7.2 (by omega)⟩
  · rintro ⟨⟨i0, i1⟩, hm⟩
    obtain ⟨q1, q2, q3, q4⟩ := encode i0 (show 0 < c.w by omega)
    have e := bLo_in q1 q2 q3
    rw [← q4] at e
    unfold meetsP bHi at hm
    rw [e] at hm
    simp only [Bool.and_eq_true, decide_eq_true_eq] at hm
    generalize i.tdiv c.w = y at *
    generalize i.tmod c.w = x at *
    obtain ⟨b1, b2⟩ := colC_le (fr := c.x) (p := lo.1) (show 1 ≤ c.sz by omega) q2
    obtain ⟨b3, b4⟩ := colC_le (fr := c.x) (p := hi.1) (show 1 ≤ c.sz by omega) q2
    obtain ⟨b5, b6⟩ := colC_le (fr := c.y) (p := lo.2) (show 1 ≤ c.sz by omega) q1
    obtain ⟨b7, b8⟩ := colC_le (fr := c.y) (p := hi.2) (show 1 ≤ c.sz by omega) q1
    have c1 := b2.1 hm.1.1.1
    have c2 := b3.1 hm.1.1.2
    have c3 := b6.1 hm.1.2
    have c4 := b7.1 hm.2
    have hyh : y ≤ c.h - 1 := by
      refine Int.not_lt.1 fun hlt => ?_
      have := Int.mul_le_mul_of_nonneg_right (show c.h ≤ y by omega) (show 0 ≤ c.w by omega)
      rw [Int.mul_comm c.h] at this
      omega
    refine ⟨y, x, ⟨by unfold yLo; omega, by unfold yHi; omega⟩, ⟨by unfold xLo; omega, by unfold xHi; omega⟩, q4⟩
end Go.Proofs.YtegmjmdkhbibjaaGreat

/- Contracts of chart: the cells under a rectangle. -/
namespace Go.Proofs.YtegmjmdkhbibjaaGreat
open Go Go.V Go.RowKit
theorem column_fn (fr sz x : Int) (M : Mem) (h1 : -1000000 ≤ fr ∧ fr ≤ 1000000) (h2 : -1000000 ≤ x ∧ x ≤ 1000000) (h3 : 1 ≤ sz) : FnP Tryz.prog 73 [.int .i64 fr, .int .i64 sz, .int .i64 x] M [.int .i64 (colC fr sz x)] := by
  refine Fn.of_vc cxOK Tryz.func73 rfl rfl rfl ?_
  repeat (first | refine VIf.tt ?_ | refine VIf.ff ?_)
  refine VIf.mk (fun h => ?_) (fun h => ?_)
  · have h := of_decide_eq_true h
    repeat (first | refine VIf.tt ?_ | refine VIf.ff ?_)
    refine VFact.mk ⟨?_, rfl⟩ trivial
    unfold colC; rw [if_pos h]
  · have h := of_decide_eq_false h
    have hd : 0 ≤ (x - fr).tdiv sz ∧ (x - fr).tdiv sz ≤ x - fr := by
      rw [Int.tdiv_eq_ediv_of_nonneg (by omega)]
      exact ⟨Int.ediv_nonneg (by omega) (by omega), Int.ediv_le_self _ (by omega)⟩
    repeat (first | refine VIf.tt ?_ | refine VIf.ff ?_)
    refine VArith.ok (by first | omega | (simp only; omega)) (by first | omega | (simp only; omega)) ?_
    repeat (first | refine VIf.tt ?_ | refine VIf.ff ?_)
    refine VDiv.mk (by omega) ?_
    repeat (first | refine VIf.tt ?_ | refine VIf.ff ?_)
    refine VArith.ok (by first | omega | (simp only; omega)) (by first | omega | (simp only; omega)) ?_
    repeat (first | refine VIf.tt ?_ | refine VIf.ff ?_)
    refine VFact.mk ⟨?_, rfl⟩ trivial
    unfold colC; rw [if_neg h]
theorem col_bd {fr sz x : Int} (h1 : -1000000 ≤ fr ∧ fr ≤ 1000000) (h2 : -1000000 ≤ x ∧ x ≤ 1000000) (h3 : 1 ≤ sz) : -1 ≤ colC fr sz x ∧ colC fr sz x ≤ 2000000 := by
  unfold colC
  split
  · omega
  · have hd : 0 ≤ (x - fr).tdiv sz ∧ (x - fr).tdiv sz ≤ x - fr := by
      rw [Int.tdiv_eq_ediv_of_nonneg (by omega)]
      exact ⟨Int.ediv_nonneg (by omega) (by omega), Int.ediv_le_self _ (by omega)⟩
    omega
def chC (c : ChartS) (a b d : Value) : Array Value := #[.int .i64 c.ver, .int .i64 c.x, .int .i64 c.y, .int .i64 c.w, .int .i64 c.h, .int .i64 c.sz, a, b, d]
theorem under_fn (c : ChartS) (a b d : Value) (lo hi : Pt) (M : Mem) (h : Cha M c a b d) : V.Fn Tryz.prog 51 [chV c a b d, ptv lo, ptv hi] M fun rs M' => ∃ B1 B2 B3,
    rs = [.func (.func 72) #[] #[.pointer (some ⟨B1, 0, none⟩), .pointer (some ⟨B2, 0, none⟩), .pointer (some ⟨B3, 0, none⟩)]] ∧
    M' B1 = some (.cells (chC c a b d) 26 (0, 0)) ∧ M' B2 = some (.cells #[.int .i64 lo.1, .int .i64 lo.2] 46 (0, 0)) ∧ M' B3 = some (.cells #[.int .i64 hi.1, .int .i64 hi.2] 46 (0, 0)) := by
  obtain ⟨⟨ad, ka, rfl⟩, ⟨bd, kb, rfl⟩, dd, kd, rfl⟩ := h.shape
  refine Fn.of_vc cxOK Tryz.func51 rfl rfl rfl ?_
  repeat (first | refine VIf.tt ?_ | refine VIf.ff ?_)
  refine VFzB.mk fun z1 B1 M1 hM1 hB1 => ?_
  repeat (first | refine VIf.tt ?_ | refine VIf.ff ?_)
  refine VFzB.mk fun z2 B2 M2 hM2 hB2 => ?_
  repeat (first | refine VIf.tt ?_ | refine VIf.ff ?_)
  refine VFzB.mk fun z3 B3 M3 hM3 hB3 => ?_
  repeat (first | refine VIf.tt ?_ | refine VIf.ff ?_)
  exact VFact.mk ⟨B1, B2, B3, rfl, hM3 _ _ (hM2 _ _ hB1), hM3 _ _ hB2, hB3⟩ trivial
set_option maxRecDepth 20000 in
set_option maxHeartbeats 2000000 in
theorem under_iter (c : ChartS) (a b d : Value) (lo hi : Pt) (M : Mem) (hF : frameC c) (h1 : placeB lo = true) (h2 : placeB hi = true) (B1 B2 B3 : Nat)
    (hB1 : M B1 = some (.cells (chC c a b d) 26 (0, 0))) (hB2 : M B2 = some (.cells #[.int .i64 lo.1, .int .i64 lo.2] 46 (0, 0))) (hB3 : M B3 = some (.cells #[.int .i64 hi.1, .int .i64 hi.2] 46 (0, 0))) :
    Iter Tryz.prog 72 #[.pointer (some ⟨B1, 0, none⟩), .pointer (some ⟨B2, 0, none⟩), .pointer (some ⟨B3, 0, none⟩)] M ((underC c lo hi).map fun i => [.int .i64 i]) := by
  rw [← rows_under hF]
  simp only [placeB, Bool.and_eq_true] at h1 h2
  have a1 := isCb_bd h1.1
  have a2 := isCb_bd h1.2
  have a3 := isCb_bd h2.1
  have a4 := isCb_bd h2.2
  obtain ⟨f1, f2, f3⟩ := hF
  simp only [placeB, Bool.and_eq_true] at f2
  have a5 := isCb_bd f2.1
  have a6 := isCb_bd f2.2
  have k1 := col_bd (fr := c.y) (sz := c.sz) (x := lo.2) (by omega) (by omega) (by omega)
  have k2 := col_bd (fr := c.y) (sz := c.sz) (x := hi.2) (by omega) (by omega) (by omega)
  have k3 := col_bd (fr := c.x) (sz := c.sz) (x := lo.1) (by omega) (by omega) (by omega)
  have k4 := col_bd (fr := c.x) (sz := c.sz) (x := hi.1) (by omega) (by omega) (by omega)
  refine Iter.of_vc cxOK Tryz.func72 rfl rfl rfl rfl fun l => ?_
  repeat (first | refine VIf.tt ?_ | refine VIf.ff ?_)
  refine VRead.mk (.int .i64 c.y) (cellAt hB1 2 rfl) ?_
  repeat (first | refine VIf.tt ?_ | refine VIf.ff ?_)
  refine VRead.mk (.int .i64 c.sz) (cellAt hB1 5 rfl) ?_
  repeat (first | refine VIf.tt ?_ | refine VIf.ff ?_)
  refine VRead.mk (.int .i64 lo.2) (cellAt hB2 1 rfl) ?_
  repeat (first | refine VIf.tt ?_ | refine VIf.ff ?_)
  refine VFn.p (column_fn c.y c.sz lo.2 M (by omega) (by omega) (by omega)) ?_
  repeat (first | refine VIf.tt ?_ | refine VIf.ff ?_)
  refine VCode.loopG cxOK (fun m => m = fun _ => none) rfl Int
    (fun y => ⟨[(0, .v (.func (.yield l) #[] #[])), (1, .v (.pointer (some ⟨B1, 0, none⟩))), (2, .v (.pointer (some ⟨B2, 0, none⟩))), (3, .v (.pointer (some ⟨B3, 0, none⟩))), (5, .v (.int .i64 y))],
      [], 0, M, 62, ⟨fun _ => none, some (l, (rowsC c.w (xLo c lo) (xHi c hi) y (yHi c hi)).map fun i => [.int .i64 i]), fun _ => none⟩⟩)
    (fun y => 0 ≤ y ∧ y ≤ 3000000) (fun y => (yHi c hi + 1 - y).toNat) (yLo c lo) ⟨by unfold yLo; omega, by unfold yLo; omega⟩ (Wk.mk' id (by repeat' constructor) (by repeat' constructor) (injOK_id _) rfl rfl rfl) ?_
  rintro y ⟨hy1, hy2⟩ m rfl
  repeat (first | refine VIf.tt ?_ | refine VIf.ff ?_)
  refine VDraw.go (by kernel_rfl) ?_
  repeat (first | refine VIf.tt ?_ | refine VIf.ff ?_)
  refine VRead.mk (.int .i64 c.h) (cellAt hB1 4 rfl) ?_
  repeat (first | refine VIf.tt ?_ | refine VIf.ff ?_)
  refine VArith.ok (by first | omega | (simp only; omega)) (by first | omega | (simp only; omega)) ?_
  repeat (first | refine VIf.tt ?_ | refine VIf.ff ?_)
  refine VRead.mk (.int .i64 c.y) (cellAt hB1 2 rfl) ?_
  repeat (first | refine VIf.tt ?_ | refine VIf.ff ?_)
  refine VRead.mk (.int .i64 c.sz) (cellAt hB1 5 rfl) ?_
  repeat (first | refine VIf.tt ?_ | refine VIf.ff ?_)
  refine VRead.mk (.int .i64 hi.2) (cellAt hB3 1 rfl) ?_
  repeat (first | refine VIf.tt ?_ | refine VIf.ff ?_)
  refine VFn.p (column_fn c.y c.sz hi.2 M (by omega) (by omega) (by omega)) ?_
  repeat (first | refine VIf.tt ?_ | refine VIf.ff ?_)
  refine VIf.mk (fun hle => ?_) (fun hgt => ?_)
  · have hle : y ≤ yHi c hi := of_decide_eq_true hle
    have hyh : y ≤ c.h - 1 := by unfold yHi at hle; omega
    repeat (first | refine VIf.tt ?_ | refine VIf.ff ?_)
    refine VRead.mk (.int .i64 c.x) (cellAt hB1 1 rfl) ?_
    repeat (first | refine VIf.tt ?_ | refine VIf.ff ?_)
    refine VRead.mk (.int .i64 c.sz) (cellAt hB1 5 rfl) ?_
    repeat (first | refine VIf.tt ?_ | refine VIf.ff ?_)
    refine VRead.mk (.int .i64 lo.1) (cellAt hB2 0 rfl) ?_
    repeat (first | refine VIf.tt ?_ | refine VIf.ff ?_)
    refine VFn.p (column_fn c.x c.sz lo.1 M (by omega) (by omega) (by omega)) ?_
    repeat (first | refine VIf.tt ?_ | refine VIf.ff ?_)
    refine VCode.loopG cxOK (fun m => m = fun _ => none) rfl Int
      (fun x => ⟨[(0, .v (.func (.yield l) #[] #[])), (1, .v (.pointer (some ⟨B1, 0, none⟩))), (2, .v (.pointer (some ⟨B2, 0, none⟩))), (3, .v (.pointer (some ⟨B3, 0, none⟩))), (5, .v (.int .i64 y)), (6, .v (.int .i64 x))],
        [], 0, M, 62, ⟨fun _ => none, some (l, (rowC c.w x (xHi c hi) y ++ rowsC c.w (xLo c lo) (xHi c hi) (y + 1) (yHi c hi)).map fun i => [.int .i64 i]), fun _ => none⟩⟩)
      (fun x => 0 ≤ x ∧ x ≤ 3000000) (fun x => (xHi c hi + 1 - x).toNat) (xLo c lo) ⟨by unfold xLo; omega, by unfold xLo; omega⟩ ?_ ?_
    · refine Wk.mk' id (by repeat' constructor) (by repeat' constructor) (injOK_id _) rfl rfl ?_
      show some (l, _) = some (l, _)
      rw [rowsC_cons hle]
    rintro x ⟨hx1, hx2⟩ m rfl
    repeat (first | refine VIf.tt ?_ | refine VIf.ff ?_)
    refine VDraw.go (by kernel_rfl) ?_
    repeat (first | refine VIf.tt ?_ | refine VIf.ff ?_)
    refine VRead.mk (.int .i64 c.w) (cellAt hB1 3 rfl) ?_
    repeat (first | refine VIf.tt ?_ | refine VIf.ff ?_)
    refine VArith.ok (by first | omega | (simp only; omega)) (by first | omega | (simp only; omega)) ?_
    repeat (first | refine VIf.tt ?_ | refine VIf.ff ?_)
    refine VRead.mk (.int .i64 c.x) (cellAt hB1 1 rfl) ?_
    repeat (first | refine VIf.tt ?_ | refine VIf.ff ?_)
    refine VRead.mk (.int .i64 c.sz) (cellAt hB1 5 rfl) ?_
    repeat (first | refine VIf.tt ?_ | refine VIf.ff ?_)
    refine VRead.mk (.int .i64 hi.1) (cellAt hB3 0 rfl) ?_
    repeat (first | refine VIf.tt ?_ | refine VIf.ff ?_)
    refine VFn.p (column_fn c.x c.sz hi.1 M (by omega) (by omega) (by omega)) ?_
    repeat (first | refine VIf.tt ?_ | refine VIf.ff ?_)
    refine VIf.mk (fun hlx => ?_) (fun hgx => ?_)
    · have hlx : x ≤ xHi c hi := of_decide_eq_true hlx
      have hxw : x ≤ c.w - 1 := by unfold xHi at hlx; omega
      repeat (first | refine VIf.tt ?_ | refine VIf.ff ?_)
      refine VRead.mk (.int .i64 c.w) (cellAt hB1 3 rfl) ?_
      have hyw := mulb (a := y) (b := c.w) 4000 4000 (by omega) (by omega)
      repeat (first | refine VIf.tt ?_ | refine VIf.ff ?_)
      refine VArith.ok (by first | omega | (simp only; omega)) (by first | omega | (simp only; omega)) ?_
      repeat (first | refine VIf.tt ?_ | refine VIf.ff ?_)
      refine VArith.ok (by first | omega | (simp only; omega)) (by first | omega | (simp only; omega)) ?_
      repeat (first | refine VIf.tt ?_ | refine VIf.ff ?_)
      refine VYield.mk ((rowC c.w (x + 1) (xHi c hi) y ++ rowsC c.w (xLo c lo) (xHi c hi) (y + 1) (yHi c hi)).map fun i => [.int .i64 i]) ?_ ?_ ?_
      · simp only [Gh.mk.injEq, and_true, true_and, Option.some.injEq, Prod.mk.injEq]
        rw [rowC_cons hlx]; rfl
      · refine VIf.ff ?_
        repeat (first | refine VIf.tt ?_ | refine VIf.ff ?_)
        refine VArith.ok (by first | omega | (simp only; omega)) (by first | omega | (simp only; omega)) ?_
        exact ⟨rfl, x + 1, ⟨by omega, by omega⟩, by first | omega | (simp only; omega), (Wk.mk' id (by repeat' constructor) (by repeat' constructor) (injOK_id _) rfl rfl rfl)⟩
      · refine VIf.tt ?_
        exact VEnd.stop rfl
    · have hgx : ¬ x ≤ xHi c hi := of_decide_eq_false hgx
      repeat (first | refine VIf.tt ?_ | refine VIf.ff ?_)
      refine VArith.ok (by first | omega | (simp only; omega)) (by first | omega | (simp only; omega)) ?_
      refine ⟨rfl, y + 1, ⟨by omega, by omega⟩, by first | omega | (simp only; omega), ?_⟩
      refine Wk.mk' id (by repeat' constructor) (by repeat' constructor) (injOK_id _) rfl rfl ?_
      show some (l, _) = some (l, _)
      rw [rowC_nil (by omega)]; rfl
  · have hgt : ¬ y ≤ yHi c hi := of_decide_eq_false hgt
    exact VEnd.all (by rw [rowsC_nil (by omega)]; rfl)
end Go.Proofs.YtegmjmdkhbibjaaGreat

/- Contracts of chart: Square, Touched, At. -/
namespace Go.Proofs.YtegmjmdkhbibjaaGreat
open Go Go.V Go.RowKit
def sqOK (c : ChartS) (i : Int) : Bool := validC c && decide (0 ≤ i ∧ i < c.cs.length)
/-- Squares lie within the coordinates. -/
theorem sq_bd {c : ChartS} (h : frameC c) {i : Int} (hi : 0 ≤ i ∧ i < c.cs.length) : ((0 ≤ i.tmod c.w * c.sz ∧ i.tmod c.w * c.sz ≤ 40000000) ∧ 0 ≤ i.tdiv c.w * c.sz ∧ i.tdiv c.w * c.sz ≤ 40000000) ∧ placeB (bLo c i) = true ∧ placeB (bHi c i) = true := by
  obtain ⟨f1, f2, f3⟩ := h
  obtain ⟨e1, e2, e3, e4⟩ := encode hi.1 (show 0 < c.w by omega)
  have hyh : i.tdiv c.w ≤ c.h - 1 := by
    refine Int.not_lt.1 fun hlt => ?_
    have := Int.mul_le_mul_of_nonneg_right (show c.h ≤ i.tdiv c.w by omega) (show 0 ≤ c.w by omega)
    rw [Int.mul_comm c.h] at this
    omega
  have b2 := place_bd f2
  have b3 := place_bd f3
  simp only at b2 b3
  unfold bHi bLo
  generalize i.tdiv c.w = y at *
  generalize i.tmod c.w = x at *
  have m1 := mulb (a := x) (b := c.sz) 4000 10000 (by omega) (by omega)
  have m2 := mulb (a := y) (b := c.sz) 4000 10000 (by omega) (by omega)
  have m3 := Int.mul_le_mul_of_nonneg_right (show x + 1 ≤ c.w by omega) (show 0 ≤ c.sz by omega)
  have m4 := Int.mul_le_mul_of_nonneg_right (show y + 1 ≤ c.h by omega) (show 0 ≤ c.sz by omega)
  rw [Int.add_mul] at m3 m4
  have pl : ∀ p : Pt, (-500000 ≤ p.1 ∧ p.1 ≤ 500000) → (-500000 ≤ p.2 ∧ p.2 ≤ 500000) → placeB p = true := fun p h1 h2 => by
    simp only [placeB, isCb, Bool.and_eq_true, decide_eq_true_eq]; exact ⟨h1, h2⟩
  refine ⟨⟨by omega, by omega⟩, pl _ ?_ ?_, pl _ ?_ ?_⟩ <;> simp only <;> omega
set_option maxRecDepth 20000 in
set_option maxHeartbeats 2000000 in
theorem Square_fn (c : ChartS) (a b d : Value) (i : Int) (M : Mem) (h : Cha M c a b d) : V.Fn Tryz.prog 29 [chV c a b d, .int .i64 i] M fun rs _ => rs = if sqOK c i = true then [ptv (bLo c i), ptv (bHi c i), .int .i64 0] else [pt 0 0, pt 0 0, .int .i64 1] := by
  have hv := chValid_fn c a b d M h
  obtain ⟨⟨ad, ka, rfl⟩, ⟨bd, kb, rfl⟩, dd, kd, rfl⟩ := h.shape
  refine Fn.of_vc cxOK Tryz.func29 rfl rfl rfl ?_
  repeat (first | refine VIf.tt ?_ | refine VIf.ff ?_)
  refine VFn.mk _ hv ?_
  rintro rs M1 hM1 rfl
  repeat (first | refine VIf.tt ?_ | refine VIf.ff ?_)
  refine VIf.mk (fun e1 => ?_) (fun e1 => ?_)
  · have e1 := (Bool.not_eq_true' _).mp e1
    repeat (first | refine VIf.tt ?_ | refine VIf.ff ?_)
    refine VDraw.go (by kernel_rfl) ?_
    repeat (first | refine VIf.tt ?_ | refine VIf.ff ?_)
    refine VFact.mk rfl ?_
    repeat (first | refine VIf.tt ?_ | refine VIf.ff ?_)
    refine VFact.mk ?_ trivial
    unfold sqOK; rw [e1]; rfl
  have hV := (Bool.not_eq_false' _).mp e1
  have bad : ¬ (0 ≤ i ∧ i < c.cs.length) → sqOK c i = false := fun h => by unfold sqOK; rw [decide_eq_false h, Bool.and_false]
  repeat (first | refine VIf.tt ?_ | refine VIf.ff ?_)
  refine VIf.mk (fun e2 => ?_) (fun e2 => ?_)
  · have e2 := of_decide_eq_true e2
    repeat (first | refine VIf.tt ?_ | refine VIf.ff ?_)
    refine VDraw.go (by kernel_rfl) ?_
    repeat (first | refine VIf.tt ?_ | refine VIf.ff ?_)
    refine VFact.mk rfl ?_
    repeat (first | refine VIf.tt ?_ | refine VIf.ff ?_)
    refine VFact.mk ?_ trivial
    rw [bad (by omega)]; rfl
  have e2 := of_decide_eq_false e2
  repeat (first | refine VIf.tt ?_ | refine VIf.ff ?_)
  refine VIf.mk (fun e3 => ?_) (fun e3 => ?_)
  · have e3 := of_decide_eq_true e3
    repeat (first | refine VIf.tt ?_ | refine VIf.ff ?_)
    refine VDraw.go (by kernel_rfl) ?_
    repeat (first | refine VIf.tt ?_ | refine VIf.ff ?_)
    refine VFact.mk rfl ?_
    repeat (first | refine VIf.tt ?_ | refine VIf.ff ?_)
    refine VFact.mk ?_ trivial
    rw [bad (by omega)]; rfl
  have e3 := of_decide_eq_false e3
  have hF := validC_frame hV
  have hi : 0 ≤ i ∧ i < c.cs.length := by omega
  obtain ⟨⟨m1, m2⟩, p1, p2⟩ := sq_bd hF hi
  have q1 := place_bd p1
  have q2 := place_bd p2
  have b2 := place_bd hF.2.1
  simp only at b2
  have hw : 0 < c.w := by have := hF.1; omega
  have hsz : 1 ≤ c.sz ∧ c.sz ≤ 10000 := by have := hF.1; omega
  obtain ⟨t1, t2, t3, t4⟩ := encode hi.1 hw
  have hok : sqOK c i = true := by unfold sqOK; rw [hV, decide_eq_true hi]; rfl
  rw [hok, if_pos rfl]
  have cl := hF.1
  have q1' : -500000 ≤ c.x + i.tmod c.w * c.sz ∧ c.x + i.tmod c.w * c.sz ≤ 500000 ∧ -500000 ≤ c.y + i.tdiv c.w * c.sz ∧ c.y + i.tdiv c.w * c.sz ≤ 500000 := q1
  have hdv : i.tdiv c.w ≤ 4000 := by
    rw [Int.tdiv_eq_ediv_of_nonneg hi.1]
    exact Int.le_trans (Int.ediv_le_self _ hi.1) (by omega)
  repeat (first | refine VIf.tt ?_ | refine VIf.ff ?_)
  refine VDraw.go (by kernel_rfl) ?_
  repeat (first | refine VIf.tt ?_ | refine VIf.ff ?_)
  refine VDiv.mk (by omega) ?_
  repeat (first | refine VIf.tt ?_ | refine VIf.ff ?_)
  refine VArith.ok (by first | omega | (simp only; omega)) (by first | omega | (simp only; omega)) ?_
  repeat (first | refine VIf.tt ?_ | refine VIf.ff ?_)
  refine VArith.ok (by first | omega | (simp only; omega)) (by first | omega | (simp only; omega)) ?_
  repeat (first | refine VIf.tt ?_ | refine VIf.ff ?_)
  refine VDiv.mk (by omega) ?_
  repeat (first | refine VIf.tt ?_ | refine VIf.ff ?_)
  refine VArith.ok (by first | omega | (simp only; omega)) (by first | omega | (simp only; omega)) ?_
  repeat (first | refine VIf.tt ?_ | refine VIf.ff ?_)
  refine VArith.ok (by first | omega | (simp only; omega)) (by first | omega | (simp only; omega)) ?_
  repeat (first | refine VIf.tt ?_ | refine VIf.ff ?_)
  refine VArith.ok (by first | omega | (simp only; omega)) (by first | omega | (simp only; omega)) ?_
  repeat (first | refine VIf.tt ?_ | refine VIf.ff ?_)
  refine VDraw.go (by kernel_rfl) ?_
  repeat (first | refine VIf.tt ?_ | refine VIf.ff ?_)
  refine VArith.ok (by first | omega | (simp only; omega)) (by first | omega | (simp only; omega)) ?_
  repeat (first | refine VIf.tt ?_ | refine VIf.ff ?_)
  refine VArith.ok (by first | omega | (simp only; omega)) (by first | omega | (simp only; omega)) ?_
  repeat (first | refine VIf.tt ?_ | refine VIf.ff ?_)
  refine VArith.ok (by first | omega | (simp only; omega)) (by first | omega | (simp only; omega)) ?_
  repeat (first | refine VIf.tt ?_ | refine VIf.ff ?_)
  refine VArith.ok (by first | omega | (simp only; omega)) (by first | omega | (simp only; omega)) ?_
  repeat (first | refine VIf.tt ?_ | refine VIf.ff ?_)
  refine VFact.mk rfl ?_
  repeat (first | refine VIf.tt ?_ | refine VIf.ff ?_)
  exact VFact.mk rfl trivial
def tcOK (c : ChartS) (lo hi : Pt) : Bool := validC c && placeB lo && placeB hi && decide (lo.1 ≤ hi.1 ∧ lo.2 ≤ hi.2)
theorem underC_64 {c : ChartS} {lo hi : Pt} (hl : c.cs.length ≤ 4000) : ∀ i ∈ underC c lo hi, i64r i := fun i hi => by
  have := (underC_mem.1 hi).1
  unfold i64r; omega
theorem underC_len (c : ChartS) (lo hi : Pt) : (underC c lo hi).length ≤ c.cs.length := by
  unfold underC unC
  rw [List.length_map]
  exact Nat.le_trans (List.length_filter_le _ _) (by rw [List.length_range]; exact Nat.le_refl _)
theorem IntsV.of {M : Mem} {v : Value} {us : List Int} (h : SlAt M 1 v us.length (us.map (Value.int .i64))) (h64 : ∀ i ∈ us, i64r i) : IntsV M v us := by
  have e : (us.map fun i => [Value.int .i64 i]).flatten = us.map (Value.int .i64) := by
    clear h h64
    induction us with
    | nil => rfl
    | cons b bs ih => simp only [List.map_cons, List.flatten_cons, ih]; rfl
  refine Arr.of (us.map fun i => [.int .i64 i]) (fun r hr => by obtain ⟨_, _, rfl⟩ := List.mem_map.1 hr; rfl) (by rw [e]; exact h) ?_
  clear h e
  induction us with
  | nil => trivial
  | cons b bs ih => exact ⟨⟨rfl, h64 b List.mem_cons_self⟩, ih fun i hi => h64 i (List.mem_cons_of_mem _ hi)⟩
set_option maxRecDepth 20000 in
set_option maxHeartbeats 2000000 in
theorem Touched_fn (c : ChartS) (a b d : Value) (lo hi : Pt) (M : Mem) (h : Cha M c a b d) (hlo : i64r lo.1 ∧ i64r lo.2) (hhi : i64r hi.1 ∧ i64r hi.2) : V.Fn Tryz.prog 30 [chV c a b d, ptv lo, ptv hi] M fun rs M' => if tcOK c lo hi = true then ∃ u, rs = [u, .int .i64 0] ∧ IntsV M' u (underC c lo hi) else rs = [.slice none 0 0, .int .i64 1] := by
  have hv := chValid_fn c a b d M h
  have hsh := h.shape
  obtain ⟨⟨ad, ka, ea⟩, ⟨bd, kb, eb⟩, dd, kd, ed⟩ := hsh
  subst ea; subst eb; subst ed
  have bad : ∀ {q : Bool}, tcOK c lo hi = q → q = false → ∀ M' : Mem, (if tcOK c lo hi = true then ∃ u, ([.slice none 0 0, .int .i64 1] : List Value) = [u, .int .i64 0] ∧ IntsV M' u (underC c lo hi) else ([.slice none 0 0, .int .i64 1] : List Value) = [.slice none 0 0, .int .i64 1]) := fun e e' M' => by
    rw [e, e', if_neg (by decide)]
  refine Fn.of_vc cxOK Tryz.func30 rfl rfl rfl ?_
  repeat (first | refine VIf.tt ?_ | refine VIf.ff ?_)
  refine VFn.mk _ hv ?_
  rintro rs M1 hM1 rfl
  repeat (first | refine VIf.tt ?_ | refine VIf.ff ?_)
  refine VIf.mk (fun e1 => ?_) (fun e1 => ?_)
  · have e1 := (Bool.not_eq_true' _).mp e1
    repeat (first | refine VIf.tt ?_ | refine VIf.ff ?_)
    exact VFact.mk (bad rfl (by unfold tcOK; rw [e1]; rfl) _) trivial
  have hV := (Bool.not_eq_false' _).mp e1
  repeat (first | refine VIf.tt ?_ | refine VIf.ff ?_)
  refine VFn.mk _ (chartPlace_fn lo _ hlo.1 hlo.2) ?_
  rintro rs M2 hM2 rfl
  repeat (first | refine VIf.tt ?_ | refine VIf.ff ?_)
  refine VIf.mk (fun e2 => ?_) (fun e2 => ?_)
  · have e2 := (Bool.not_eq_true' _).mp e2
    repeat (first | refine VIf.tt ?_ | refine VIf.ff ?_)
    exact VFact.mk (bad rfl (by unfold tcOK; rw [e2, Bool.and_false]; rfl) _) trivial
  have hL := (Bool.not_eq_false' _).mp e2
  repeat (first | refine VIf.tt ?_ | refine VIf.ff ?_)
  refine VFn.mk _ (chartPlace_fn hi _ hhi.1 hhi.2) ?_
  rintro rs M3 hM3 rfl
  repeat (first | refine VIf.tt ?_ | refine VIf.ff ?_)
  refine VIf.mk (fun e3 => ?_) (fun e3 => ?_)
  · have e3 := (Bool.not_eq_true' _).mp e3
    repeat (first | refine VIf.tt ?_ | refine VIf.ff ?_)
    exact VFact.mk (bad rfl (by unfold tcOK; rw [e3, Bool.and_false]; rfl) _) trivial
  have hH := (Bool.not_eq_false' _).mp e3
  repeat (first | refine VIf.tt ?_ | refine VIf.ff ?_)
  refine VIf.mk (fun e4 => ?_) (fun e4 => ?_)
  · have e4 := of_decide_eq_true e4
    repeat (first | refine VIf.tt ?_ | refine VIf.ff ?_)
    exact VFact.mk (bad rfl (by unfold tcOK; rw [decide_eq_false (by omega), Bool.and_false]) _) trivial
  have e4 := of_decide_eq_false e4
  repeat (first | refine VIf.tt ?_ | refine VIf.ff ?_)
  refine VIf.mk (fun e5 => ?_) (fun e5 => ?_)
  · have e5 := of_decide_eq_true e5
    repeat (first | refine VIf.tt ?_ | refine VIf.ff ?_)
    exact VFact.mk (bad rfl (by unfold tcOK; rw [decide_eq_false (by omega), Bool.and_false]) _) trivial
  have e5 := of_decide_eq_false e5
  have hok : tcOK c lo hi = true := by unfold tcOK; rw [hV, hL, hH, decide_eq_true (by omega)]; rfl
  rw [hok]
  have m3 := hM1.trans (hM2.trans hM3)
  repeat (first | refine VIf.tt ?_ | refine VIf.ff ?_)
  refine VFn.mk _ (under_fn c _ _ _ lo hi M3 (h.le m3)) ?_
  rintro rs M4 hM4 ⟨B1, B2, B3, rfl, hB1, hB2, hB3⟩
  have hit := under_iter c _ _ _ lo hi M4 (validC_frame hV) hL hH B1 B2 B3 hB1 hB2 hB3
  have h64 := underC_64 (c := c) (lo := lo) (hi := hi) (validC_frame hV).1.2.2.2.2.1
  have hlen := underC_len c lo hi
  have hc4 := (validC_frame hV).1.2.2.2.2.1
  generalize underC c lo hi = us at *
  repeat (first | refine VIf.tt ?_ | refine VIf.ff ?_)
  refine VCode.rangeB cxOK rfl hit (fun x hx => ?_) [(8, .box 3 0)] rfl (by kernel_rfl) (by kernel_rfl) Unit
    (fun k _ => ⟨[(8, .box 3 0)], [(3, some (.box 27 [.row 4])), (4, some (.row 3 1 (us.take k).length ((us.take k).map (Value.int .i64))))], 5, M4, 47, ⟨fun _ => none, none, fun _ => none⟩⟩)
    (fun k _ => k ≤ us.length) () (Nat.zero_le _) ?_ (fun k s => ⟨rfl, rfl⟩) ?_ ?_
  · obtain ⟨i, _, rfl⟩ := List.mem_map.1 hx
    rfl
  · exact Wk.nilBox 3 27 [] [] 3 1 rfl (Wk.mk' id (by repeat' constructor) (by repeat' constructor) (injOK_id _) rfl rfl rfl)
  · rintro k _ args hk hxs m f
    rw [List.getElem?_map] at hxs
    obtain ⟨g, hg, rfl⟩ : ∃ g, us[k]? = some g ∧ [Value.int .i64 g] = args := by
      cases h : us[k]? with
      | none => rw [h] at hxs; cases hxs
      | some g => rw [h] at hxs; exact ⟨g, rfl, by simpa using hxs⟩
    obtain ⟨hk, eg⟩ := List.getElem?_eq_some_iff.1 hg
    have htk : us.take (k + 1) = us.take k ++ [g] := by rw [List.take_add_one, hg]; rfl
    intro m'
    have hb : ((us.take k).length + 1) * 8 ≤ 140737488355328 := by rw [List.length_take]; omega
    repeat (first | refine VIf.tt ?_ | refine VIf.ff ?_)
    refine VFact.mk hb ?_
    repeat (first | refine VIf.tt ?_ | refine VIf.ff ?_)
    refine ⟨(), hk, Wk.mk' (fun i => if i = 4 then 6 else i) (by repeat' constructor) ⟨⟨rfl, by repeat' constructor⟩, ⟨rfl, ⟨rfl, rfl, ?_, ?_⟩⟩, trivial⟩ (by simp [injOK]) rfl rfl rfl⟩
    · show (us.take (k + 1)).length = (us.take k).length + 1
      rw [htk, List.length_append]; rfl
    · show (us.take (k + 1)).map (Value.int .i64) = (us.take k).map (Value.int .i64) ++ ([Value.int .i64 g] ++ [])
      rw [htk, List.map_append]; rfl
  · rintro _ m _
    repeat (first | refine VIf.tt ?_ | refine VIf.ff ?_)
    refine VFz.mk fun x B M5 hM5 hx => ?_
    have hx : SlAt M5 1 x (us.take (us.map fun i => [Value.int .i64 i]).length).length ((us.take (us.map fun i => [Value.int .i64 i]).length).map (Value.int .i64)) := hx
    rw [List.length_map, List.take_length] at hx
    repeat (first | refine VIf.tt ?_ | refine VIf.ff ?_)
    exact VFact.mk (show ∃ u, ([x, .int .i64 0] : List Value) = [u, .int .i64 0] ∧ IntsV M5 u us from ⟨x, rfl, IntsV.of hx h64⟩) trivial
def atOK (c : ChartS) (x : Pt) : Bool := validC c && placeB x
def atR (c : ChartS) (x : Pt) : List Value := match underC c x x with
  | [] => [.int .i64 0, .bool false, .int .i64 0]
  | i :: _ => [.int .i64 i, .bool true, .int .i64 0]
set_option maxRecDepth 20000 in
set_option maxHeartbeats 2000000 in
theorem At_fn (c : ChartS) (a b d : Value) (x : Pt) (M : Mem) (h : Cha M c a b d) (hx : i64r x.1 ∧ i64r x.2) : V.Fn Tryz.prog 27 [chV c a b d, ptv x] M fun rs _ => rs = if atOK c x = true then atR c x else [.int .i64 0, .bool false, .int .i64 1] := by
  have hv := chValid_fn c a b d M h
  have hsh := h.shape
  obtain ⟨⟨ad, ka, ea⟩, ⟨bd, kb, eb⟩, dd, kd, ed⟩ := hsh
  subst ea; subst eb; subst ed
  refine Fn.of_vc cxOK Tryz.func27 rfl rfl rfl ?_
  repeat (first | refine VIf.tt ?_ | refine VIf.ff ?_)
  refine VFn.mk _ hv ?_
  rintro rs M1 hM1 rfl
  repeat (first | refine VIf.tt ?_ | refine VIf.ff ?_)
  refine VIf.mk (fun e1 => ?_) (fun e1 => ?_)
  · have e1 := (Bool.not_eq_true' _).mp e1
    repeat (first | refine VIf.tt ?_ | refine VIf.ff ?_)
    refine VFact.mk ?_ trivial
    unfold atOK; rw [e1]; rfl
  have hV := (Bool.not_eq_false' _).mp e1
  repeat (first | refine VIf.tt ?_ | refine VIf.ff ?_)
  refine VFn.mk _ (chartPlace_fn x _ hx.1 hx.2) ?_
  rintro rs M2 hM2 rfl
  repeat (first | refine VIf.tt ?_ | refine VIf.ff ?_)
  refine VIf.mk (fun e2 => ?_) (fun e2 => ?_)
  · have e2 := (Bool.not_eq_true' _).mp e2
    repeat (first | refine VIf.tt ?_ | refine VIf.ff ?_)
    refine VFact.mk ?_ trivial
    unfold atOK; rw [e2, Bool.and_false]; rfl
  have hP := (Bool.not_eq_false' _).mp e2
  have hok : atOK c x = true := by unfold atOK; rw [hV, hP]; rfl
  have m2 := hM1.trans hM2
  repeat (first | refine VIf.tt ?_ | refine VIf.ff ?_)
  refine VFn.mk _ (under_fn c _ _ _ x x M2 (h.le m2)) ?_
  rintro rs M3 hM3 ⟨B1, B2, B3, rfl, hB1, hB2, hB3⟩
  have hit := under_iter c _ _ _ x x M3 (validC_frame hV) hP hP B1 B2 B3 hB1 hB2 hB3
  rw [hok]
  have hR : atR c x = match underC c x x with
    | [] => [.int .i64 0, .bool false, .int .i64 0]
    | i :: _ => [.int .i64 i, .bool true, .int .i64 0] := rfl
  generalize underC c x x = us at *
  repeat (first | refine VIf.tt ?_ | refine VIf.ff ?_)
  refine VCode.rangeB cxOK rfl hit (fun x hx => ?_) [(4, .box 2 0), (5, .box 3 0), (6, .box 4 0)] rfl (by kernel_rfl) (by kernel_rfl) Unit
    (fun k _ => ⟨[(4, .box 2 0), (5, .box 3 0), (6, .box 4 0)], [(2, some (.box 3 [.v (.int .i64 0)])), (3, some (.box 4 [.v (.bool false)])), (4, some (.box 30 [.v (.int .i64 0)]))], 5, M3, 22, ⟨fun _ => none, none, fun _ => none⟩⟩)
    (fun k _ => k = 0) () rfl (Wk.mk' id (by repeat' constructor) (by repeat' constructor) (injOK_id _) rfl rfl rfl) (fun k s => ⟨rfl, rfl⟩) ?_ ?_
  · obtain ⟨i, _, rfl⟩ := List.mem_map.1 hx
    rfl
  · rintro k _ args hk hxs m f
    have hk : k = 0 := hk
    subst hk
    rw [List.getElem?_map] at hxs
    obtain ⟨g, hg, rfl⟩ : ∃ g, us[0]? = some g ∧ [Value.int .i64 g] = args := by
      cases h : us[0]? with
      | none => rw [h] at hxs; cases hxs
      | some g => rw [h] at hxs; exact ⟨g, rfl, by simpa using hxs⟩
    intro m'
    have hR2 : atR c x = [.int .i64 g, .bool true, .int .i64 0] := by
      cases us with
      | nil => simp at hg
      | cons i r => simp at hg; subst hg; exact hR
    repeat (first | refine VIf.tt ?_ | refine VIf.ff ?_)
    refine ⟨⟨[(4, .box 2 0), (5, .box 3 0), (6, .box 4 0)], [(2, some (.box 3 [.v (.int .i64 g)])), (3, some (.box 4 [.v (.bool true)])), (4, some (.box 30 [.v (.int .i64 0)]))], 5, M3, 22, ⟨m', none, f⟩⟩, (Wk.mk' id (by repeat' constructor) (by repeat' constructor) (injOK_id _) rfl rfl rfl), rfl, rfl, fun m2 => ?_⟩
    repeat (first | refine VIf.tt ?_ | refine VIf.ff ?_)
    exact VFact.mk (by rw [hR2]; rfl) trivial
  · rintro _ m hk
    have hk : (us.map fun i => [Value.int .i64 i]).length = 0 := hk
    have hR2 : atR c x = [.int .i64 0, .bool false, .int .i64 0] := by
      cases us with
      | nil => exact hR
      | cons i r => simp at hk
    repeat (first | refine VIf.tt ?_ | refine VIf.ff ?_)
    exact VFact.mk (by rw [hR2]; rfl) trivial
end Go.Proofs.YtegmjmdkhbibjaaGreat

/- slices.Sorted(maps.Keys(m)), m a map of one's own. -/
namespace Go.Proofs
open Go.RowKit Go.Maps Go.Sort Go.Shelf
def Tryz.keysA_ren : Go.Shelf.Ren := ⟨fun | 7 => 34 | 10 => 56 | n => n, fun | 23 => 63 | 26 => 3 | 3 => 4 | 28 => 66 | 0 => 0 | 27 => 65 | 33 => 69 | 4 => 4 | n => n, fun | n => n⟩
theorem Tryz.keysA : Go.Proofs.SlLaysZI.n7 Tryz.prog Tryz.keysA_ren := {
  mixed := by kernel_rfl
  f7 := ⟨Tryz.f34.name, by decide, Tryz.func34.trans (congrArg some (by kernel_rfl))⟩
  f10 := ⟨Tryz.f56.name, by decide, Tryz.func56.trans (congrArg some (by kernel_rfl))⟩
  t0 := Tryz.underlying0
  a0 := Tryz.isAgg0
  z0 := Tryz.sizeOf0
  v0 := Tryz.zeroValue0
  t4 := Tryz.underlying4
  a4 := Tryz.isAgg4
  z4 := Tryz.sizeOf4
  v4 := Tryz.zeroValue4
  t23 := Tryz.underlying63
  a23 := Tryz.isAgg63
  z23 := Tryz.sizeOf63
  v23 := Tryz.zeroValue63
  t26 := Tryz.underlying3
  a26 := Tryz.isAgg3
  z26 := Tryz.sizeOf3
  v26 := Tryz.zeroValue3
  t27 := Tryz.underlying65
  a27 := Tryz.isAgg65
  z27 := Tryz.sizeOf65
  v27 := Tryz.zeroValue65
  t28 := Tryz.underlying66
  a28 := Tryz.isAgg66
  z28 := Tryz.sizeOf66
  v28 := Tryz.zeroValue66
  t33 := Tryz.underlying69
  a33 := Tryz.isAgg69
  z33 := Tryz.sizeOf69
  v33 := Tryz.zeroValue69 }
def Tryz.sortedA_ren : Go.Shelf.Ren := ⟨fun | 6 => 33 | 8 => 54 | 9 => 55 | 11 => 75 | 13 => 77 | 12 => 76 | 23 => 95 | 24 => 96 | 14 => 86 | 15 => 87 | 16 => 88 | 17 => 89 | 18 => 90 | 19 => 91 | 20 => 92 | 21 => 93 | 22 => 94 | 25 => 103 | 26 => 104 | 27 => 105 | 28 => 106 | 29 => 107 | 30 => 108 | 31 => 114 | n => n, fun | 26 => 3 | 28 => 66 | 24 => 27 | 0 => 0 | 3 => 3 | 37 => 103 | 48 => 117 | 50 => 40 | 4 => 4 | 40 => 109 | 39 => 108 | 45 => 114 | 5 => 5 | 9 => 9 | 51 => 127 | 55 => 131 | 57 => 139 | 58 => 140 | 33 => 69 | n => n, fun | n => n⟩
theorem Tryz.sortedA : Go.Proofs.SlLaysZI.n6 Tryz.prog Tryz.sortedA_ren := {
  mixed := by kernel_rfl
  f6 := ⟨Tryz.f33.name, by decide, Tryz.func33.trans (congrArg some (by kernel_rfl))⟩
  f8 := ⟨Tryz.f54.name, by decide, Tryz.func54.trans (congrArg some (by kernel_rfl))⟩
  f11 := ⟨Tryz.f75.name, by decide, Tryz.func75.trans (congrArg some (by kernel_rfl))⟩
  t0 := Tryz.underlying0
  a0 := Tryz.isAgg0
  z0 := Tryz.sizeOf0
  v0 := Tryz.zeroValue0
  t24 := Tryz.underlying27
  a24 := Tryz.isAgg27
  z24 := Tryz.sizeOf27
  v24 := Tryz.zeroValue27
  t26 := Tryz.underlying3
  a26 := Tryz.isAgg3
  z26 := Tryz.sizeOf3
  v26 := Tryz.zeroValue3
  t28 := Tryz.underlying66
  a28 := Tryz.isAgg66
  z28 := Tryz.sizeOf66
  v28 := Tryz.zeroValue66
  i26 := by kernel_rfl }
def Tryz.sortA_ren : Go.Shelf.Ren := ⟨fun | 5 => 55 | 8 => 77 | 7 => 76 | 19 => 95 | 20 => 96 | 10 => 86 | 11 => 87 | 12 => 88 | 13 => 89 | 14 => 90 | 15 => 91 | 16 => 92 | 17 => 93 | 18 => 94 | 30 => 103 | 31 => 104 | 32 => 105 | 33 => 106 | 34 => 107 | 35 => 108 | 40 => 114 | n => n, fun | 23 => 27 | 25 => 3 | 3 => 3 | 32 => 103 | 22 => 27 | 0 => 0 | 44 => 117 | 46 => 40 | 4 => 4 | 36 => 109 | 35 => 108 | 41 => 114 | 5 => 5 | 9 => 9 | 53 => 127 | 57 => 131 | 63 => 139 | 64 => 140 | n => n, fun | n => n⟩
theorem Tryz.sortA : Go.Proofs.SlLaysM.n5 Tryz.prog Tryz.sortA_ren := {
  mixed := by kernel_rfl
  f5 := ⟨Tryz.f55.name, by decide, Tryz.func55.trans (congrArg some (by kernel_rfl))⟩
  f7 := ⟨Tryz.f76.name, by decide, Tryz.func76.trans (congrArg some (by kernel_rfl))⟩
  f8 := Tryz.func77.trans (congrArg some (by kernel_rfl))
  f10 := ⟨Tryz.f86.name, by decide, Tryz.func86.trans (congrArg some (by kernel_rfl))⟩
  f11 := ⟨Tryz.f87.name, by decide, Tryz.func87.trans (congrArg some (by kernel_rfl))⟩
  f12 := ⟨Tryz.f88.name, by decide, Tryz.func88.trans (congrArg some (by kernel_rfl))⟩
  f13 := ⟨Tryz.f89.name, by decide, Tryz.func89.trans (congrArg some (by kernel_rfl))⟩
  f14 := ⟨Tryz.f90.name, by decide, Tryz.func90.trans (congrArg some (by kernel_rfl))⟩
  f15 := ⟨Tryz.f91.name, by decide, Tryz.func91.trans (congrArg some (by kernel_rfl))⟩
  f16 := ⟨Tryz.f92.name, by decide, Tryz.func92.trans (congrArg some (by kernel_rfl))⟩
  f17 := ⟨Tryz.f93.name, by decide, Tryz.func93.trans (congrArg some (by kernel_rfl))⟩
  f18 := ⟨Tryz.f94.name, by decide, Tryz.func94.trans (congrArg some (by kernel_rfl))⟩
  f19 := Tryz.func95.trans (congrArg some (by kernel_rfl))
  f20 := Tryz.func96.trans (congrArg some (by kernel_rfl))
  f30 := ⟨Tryz.f103.name, by decide, Tryz.func103.trans (congrArg some (by kernel_rfl))⟩
  f31 := Tryz.func104.trans (congrArg some (by kernel_rfl))
  f32 := Tryz.func105.trans (congrArg some (by kernel_rfl))
  f33 := ⟨Tryz.f106.name, by decide, Tryz.func106.trans (congrArg some (by kernel_rfl))⟩
  f34 := ⟨Tryz.f107.name, by decide, Tryz.func107.trans (congrArg some (by kernel_rfl))⟩
  f35 := ⟨Tryz.f108.name, by decide, Tryz.func108.trans (congrArg some (by kernel_rfl))⟩
  f40 := ⟨Tryz.f114.name, by decide, Tryz.func114.trans (congrArg some (by kernel_rfl))⟩
  t0 := Tryz.underlying0
  a0 := Tryz.isAgg0
  z0 := Tryz.sizeOf0
  v0 := Tryz.zeroValue0
  t3 := Tryz.underlying3
  a3 := Tryz.isAgg3
  z3 := Tryz.sizeOf3
  v3 := Tryz.zeroValue3
  t4 := Tryz.underlying4
  a4 := Tryz.isAgg4
  z4 := Tryz.sizeOf4
  v4 := Tryz.zeroValue4
  t5 := Tryz.underlying5
  a5 := Tryz.isAgg5
  z5 := Tryz.sizeOf5
  v5 := Tryz.zeroValue5
  t9 := Tryz.underlying9
  a9 := Tryz.isAgg9
  z9 := Tryz.sizeOf9
  v9 := Tryz.zeroValue9
  t22 := Tryz.underlying27
  a22 := Tryz.isAgg27
  z22 := Tryz.sizeOf27
  v22 := Tryz.zeroValue27
  t23 := Tryz.underlying27
  a23 := Tryz.isAgg27
  z23 := Tryz.sizeOf27
  v23 := Tryz.zeroValue27
  t25 := Tryz.underlying3
  a25 := Tryz.isAgg3
  z25 := Tryz.sizeOf3
  v25 := Tryz.zeroValue3
  t32 := Tryz.underlying103
  a32 := Tryz.isAgg103
  z32 := Tryz.sizeOf103
  v32 := Tryz.zeroValue103
  t35 := Tryz.underlying108
  a35 := Tryz.isAgg108
  z35 := Tryz.sizeOf108
  v35 := Tryz.zeroValue108
  t36 := Tryz.underlying109
  a36 := Tryz.isAgg109
  z36 := Tryz.sizeOf109
  v36 := Tryz.zeroValue109
  t41 := Tryz.underlying114
  a41 := Tryz.isAgg114
  z41 := Tryz.sizeOf114
  v41 := Tryz.zeroValue114
  t44 := Tryz.underlying117
  a44 := Tryz.isAgg117
  z44 := Tryz.sizeOf117
  v44 := Tryz.zeroValue117
  t46 := Tryz.underlying40
  a46 := Tryz.isAgg40
  z46 := Tryz.sizeOf40
  v46 := Tryz.zeroValue40
  t53 := Tryz.underlying127
  a53 := Tryz.isAgg127
  z53 := Tryz.sizeOf127
  v53 := Tryz.zeroValue127
  t57 := Tryz.underlying131
  a57 := Tryz.isAgg131
  z57 := Tryz.sizeOf131
  v57 := Tryz.zeroValue131
  t63 := Tryz.underlying139
  a63 := Tryz.isAgg139
  z63 := Tryz.sizeOf139
  v63 := Tryz.zeroValue139
  t64 := Tryz.underlying140
  a64 := Tryz.isAgg140
  z64 := Tryz.sizeOf140
  v64 := Tryz.zeroValue140 }
theorem Tryz.sortsA (m : Nat) : AnyZI.SortsIn Tryz.prog Tryz.sortedA_ren Fence.wide m :=
  ⟨fun blk off cap ss W hH hblk hsz => callsIn_wide.2 (AnyM.slices_Sort_int Tryz.sortA blk off cap ss W hH hblk hsz),
   fun p cap W => callsIn_wide.2 (AnyM.slices_Sort_int_none Tryz.sortA p cap W)⟩
end Go.Proofs
namespace Go.Proofs.YtegmjmdkhbibjaaGreat
open Go Go.V Go.RowKit Go.Maps Go.Sort Go.Shelf
theorem dedup (ks : List Int) : ∃ zs : List Int, zs.Nodup ∧ ∀ x, x ∈ zs ↔ x ∈ ks := by
  induction ks with
  | nil => exact ⟨[], List.nodup_nil, fun x => Iff.rfl⟩
  | cons k ks ih =>
    obtain ⟨zs, h1, h2⟩ := ih
    by_cases hk : k ∈ zs
    · refine ⟨zs, h1, fun x => ?_⟩
      rw [List.mem_cons, h2]
      constructor
      · exact .inr
      · rintro (rfl | h)
        · exact (h2 _).1 hk
        · exact h
    · exact ⟨k :: zs, List.nodup_cons.2 ⟨hk, h1⟩, fun x => by rw [List.mem_cons, List.mem_cons, h2]⟩
theorem keys_sorted {W : World} {k e : TypeId} {B : Nat} {ks : List Int} {D : DataW Unit} (hD : W.ownsMap Tryz.prog k (plainElem Tryz.prog e) B ks.length D) (hk : Tryz.prog.underlying k = some (.int .i64)) (hS : MapSays D ks) {ss : List Int} (hp : ss.Perm (intKeys D)) :
    (ss.mergeSort fun x y => decide (x ≤ y)).Pairwise (· < ·) ∧ ∀ x, x ∈ (ss.mergeSort fun x y => decide (x ≤ y)) ↔ x ∈ ks := by
  obtain ⟨zs, z1, z2⟩ := dedup ks
  obtain ⟨es, hDe, hpw, _⟩ := hD.entries (int_keyed hk)
  obtain ⟨es', hD', hko⟩ := hD.keysOf
  obtain rfl : es = es' := by rw [hDe] at hD'; simpa using hD'
  subst hDe
  have hz := perm_intKeys hpw (fun p hp => by obtain ⟨v, hv⟩ := hko p hp; obtain ⟨x, _, hx, _⟩ := Maps.keyOf_i64 hk hv; exact ⟨x, hx⟩) z1 (fun x => by rw [z2, (hS.2 x).2, decide_eq_true_iff])
  have hsz := hp.trans hz.symm
  have hnd : ss.Nodup := hsz.nodup_iff.2 z1
  have hms := List.mergeSort_perm ss fun x y => decide (x ≤ y)
  refine ⟨?_, fun x => ?_⟩
  · have h1 : (ss.mergeSort fun x y => decide (x ≤ y)).Pairwise (fun a b => decide (a ≤ b) = true) := List.pairwise_mergeSort (fun a b c h1 h2 => by simp only [decide_eq_true_eq] at *; omega) (fun a b => by simp only [Bool.or_eq_true, decide_eq_true_eq]; omega) ss
    have h2 : (ss.mergeSort fun x y => decide (x ≤ y)).Pairwise (· ≠ ·) := hms.nodup_iff.2 hnd
    exact h1.imp₂ (fun {a b} h h' => by simp only [decide_eq_true_eq] at h; omega) h2
  · rw [hms.mem_iff, hsz.mem_iff, z2]
set_option maxHeartbeats 1000000 in
theorem Sorted_call {st : St} {K : SV → St → Prop} {Bm j T t k e B : Nat} {ks : List Int} (hi : st.M Bm = some (.cells #[.map (some B)] T (0, 0))) (hj : st.own j = some (.mp Tryz.prog t k e B ks)) (hkt : k = 3) (hl : ks.length ≤ 10000000)
    (hK : ∀ zs : List Int, zs.Pairwise (· < ·) → (∀ x, x ∈ zs ↔ x ∈ ks) → K (.row st.nx) ⟨st.sl, (st.nx, some (.row 3 1 zs.length (zs.map (Value.int .i64)))) :: st.ow, st.nx + 1, st.M, st.nt, st.G⟩) :
    VCall Tryz.prog 33 [.v (.func (.func 56) #[] #[.pointer (some ⟨Bm, 0, none⟩)])] st K := by
  subst hkt
  refine ⟨enters_of Tryz.func33 (by kernel_rfl) rfl, fun n₀ w M₀ ρ W hS hsa hss => ?_⟩
  have r3 := hS.mem Bm _ hi
  obtain ⟨_, _, o1, o2, ⟨u1, u2, u3, u4⟩, D, hD, hSays⟩ := hS.own j _ hj
  have hBm : Bm < W.heap.size := (Array.getElem?_eq_some_iff.1 r3).1
  have hcell : W.cell? ⟨Bm, 0, none⟩ = some (.map (some B)) := by simp [World.cell?, r3, SV.den]
  obtain ⟨es, hDe, _, hes⟩ := hD.entries (int_keyed u2)
  have hsz : Maps.size D ≤ ks.length := by
    obtain ⟨es0, clock, _, _, q1, q2⟩ := hD
    rw [q2]
    show ((es0.toList.map _).foldr DataW.insert []).length ≤ _
    rw [length_sorted, List.length_map, Array.length_toList]
    exact q1
  have hseq : SeqGives Fence.wide 97 Tryz.prog 56 #[.pointer (some ⟨Bm, 0, none⟩)] encZ (fun ss => ss.Perm (intKeys D)) (Maps.size D) W :=
    AnyZI.keys_gives (ρ := Tryz.keysA_ren) { Tryz.keysA with } Fence.wide _ trivial rfl (by omega) Bm B ks.length D W hBm hcell hD
  have cS := AnyZI.sorted_in Tryz.sortedA Fence.wide 100 trivial trivial trivial trivial rfl (by omega) (Tryz.sortsA _) (enters_of Tryz.func55 (by kernel_rfl) rfl) 56 #[.pointer (some ⟨Bm, 0, none⟩)] trivial (enters_of Tryz.func56 (by kernel_rfl) rfl) _ _ (by unfold maxLen; omega) (by omega) _ hseq
  show Calls _ _ #[.func (.func 56) #[] #[.pointer (some ⟨Bm, 0, none⟩)]] _ _
  refine ((callsIn_wide (n := 100)).1 cS).mono ?_
  rintro ex W' ⟨v, ss, rfl, hperm, hrow, hnil, hb⟩
  have hrow' : W'.ownsRow W.heap.size 3 1 v (ss.mergeSort fun x y => decide (x ≤ y)).length ((ss.mergeSort fun x y => decide (x ≤ y)).map (Value.int .i64)) := by
    rw [List.length_mergeSort]; exact hrow
  obtain ⟨z1, z2⟩ := keys_sorted hD u2 hSays hperm
  generalize (ss.mergeSort fun x y => decide (x ≤ y)) = zs at *
  refine ⟨.row st.nx, _, upd ρ st.nx v, ?_, Nat.lt_succ_self _, hS.more (M' := st.M) hb hrow' (fun x hx => ?_) (fun b hbv => ?_) (fun b o hbo => ?_) (fun _ _ => rfl), fun d s hd => ?_, rfl, rfl, hK zs z1 z2⟩
  · simp only [SV.den, upd_same]
    rw [ownsRow_isSl hrow']
  · obtain ⟨_, _, rfl⟩ := List.mem_map.1 hx
    rfl
  · cases hm : st.M b with
    | none => rfl
    | some o =>
      have h1 := (Array.getElem?_eq_some_iff.1 (hS.mem b o hm)).1
      have h2 := (hrow'.lt b (by rw [← ob_ownBlock hrow']; exact hbv)).1
      omega
  · have h1 := hS.mem b o hbo
    rw [hb.block b (Array.getElem?_eq_some_iff.1 h1).1]; exact h1
  · have hs := hss d s hd
    exact ⟨SV.sc_mono (Nat.le_succ _) hs, s, hd, SV.den_agree (agree_upd ρ st.nx _) hs⟩
end Go.Proofs.YtegmjmdkhbibjaaGreat

/- Contracts of translate: Touch, Cells. -/
namespace Go.Proofs.YtegmjmdkhbibjaaGreat
open Go Go.V Go.RowKit
theorem areValid_fn (c e : ChartS) (a b d a2 b2 d2 : Value) (M : Mem) (h : Cha M c a b d) (h2 : Cha M e a2 b2 d2) : V.Fn Tryz.prog 32 [chV c a b d, chV e a2 b2 d2] M fun rs _ => rs = [.bool (validC c && validC e)] := by
  have hv := chValid_fn c a b d M h
  have hv2 := fun M' (hM : M.le M') => chValid_fn e a2 b2 d2 M' (h2.le hM)
  obtain ⟨⟨ad, ka, rfl⟩, ⟨bd, kb, rfl⟩, dd, kd, rfl⟩ := h.shape
  obtain ⟨⟨ad2, ka2, rfl⟩, ⟨bd2, kb2, rfl⟩, dd2, kd2, rfl⟩ := h2.shape
  refine Fn.of_vc cxOK Tryz.func32 rfl rfl rfl ?_
  repeat (first | refine VIf.tt ?_ | refine VIf.ff ?_)
  refine VFn.mk _ hv ?_
  rintro rs M1 hM1 rfl
  repeat (first | refine VIf.tt ?_ | refine VIf.ff ?_)
  refine VIf.mk (fun e1 => ?_) (fun e1 => ?_)
  · repeat (first | refine VIf.tt ?_ | refine VIf.ff ?_)
    refine VFn.mk _ (hv2 M1 hM1) ?_
    rintro rs M2 hM2 rfl
    repeat (first | refine VIf.tt ?_ | refine VIf.ff ?_)
    exact VFact.mk (by rw [e1]; rfl) trivial
  · repeat (first | refine VIf.tt ?_ | refine VIf.ff ?_)
    exact VFact.mk (by rw [e1]; rfl) trivial
def touC (c : ChartS) (i : Int) (e : ChartS) : List Int := underC e (bLo c i) (bHi c i)
theorem tc_of {c e : ChartS} {i : Int} (h : sqOK c i = true) : tcOK e (bLo c i) (bHi c i) = validC e ∧ (i64r (bLo c i).1 ∧ i64r (bLo c i).2) ∧ i64r (bHi c i).1 ∧ i64r (bHi c i).2 := by
  unfold sqOK at h
  simp only [Bool.and_eq_true, decide_eq_true_eq] at h
  obtain ⟨⟨m1, m2⟩, p1, p2⟩ := sq_bd (validC_frame h.1) h.2
  have q1 := place_bd p1
  have q2 := place_bd p2
  have f1 := (validC_frame h.1).1
  refine ⟨?_, ?_, ?_⟩
  · unfold tcOK
    rw [p1, p2, Bool.and_true, Bool.and_true, decide_eq_true, Bool.and_true]
    unfold bHi; simp only; omega
  · unfold i64r; omega
  · unfold i64r; omega
theorem Touch_fn (c e : ChartS) (a b d a2 b2 d2 : Value) (i : Int) (M : Mem) (h : Cha M c a b d) (h2 : Cha M e a2 b2 d2) : V.Fn Tryz.prog 12 [chV c a b d, .int .i64 i, chV e a2 b2 d2] M fun rs M' => if (sqOK c i && validC e) = true then ∃ u, rs = [u, .int .i64 0] ∧ IntsV M' u (touC c i e) else rs = [.slice none 0 0, .int .i64 1] := by
  have hv := Square_fn c a b d i M h
  have hv2 := fun M' (hM : M.le M') q1 q2 => Touched_fn e a2 b2 d2 (bLo c i) (bHi c i) M' (h2.le hM) q1 q2
  obtain ⟨⟨ad, ka, rfl⟩, ⟨bd, kb, rfl⟩, dd, kd, rfl⟩ := h.shape
  obtain ⟨⟨ad2, ka2, rfl⟩, ⟨bd2, kb2, rfl⟩, dd2, kd2, rfl⟩ := h2.shape
  by_cases hs : sqOK c i = true
  · rw [hs, if_pos rfl] at hv
    obtain ⟨t1, t2, t3⟩ := tc_of (e := e) hs
    refine Fn.of_vc cxOK Tryz.func12 rfl rfl rfl ?_
    repeat (first | refine VIf.tt ?_ | refine VIf.ff ?_)
    refine VFn.mk _ hv ?_
    rintro rs M1 hM1 rfl
    have F := hv2 M1 hM1 t2 t3
    rw [t1] at F
    repeat (first | refine VIf.tt ?_ | refine VIf.ff ?_)
    refine VFn.mk _ F ?_
    rintro rs M2 hM2 hr
    rw [hs]
    cases hV : validC e with
    | true =>
      rw [hV, if_pos rfl] at hr
      obtain ⟨u, rfl, hu⟩ := hr
      repeat (first | refine VIf.tt ?_ | refine VIf.ff ?_)
      exact VFact.mk (show ∃ u', _ = _ ∧ _ from ⟨u, rfl, hu⟩) trivial
    | false =>
      rw [hV, if_neg (by decide)] at hr
      subst hr
      repeat (first | refine VIf.tt ?_ | refine VIf.ff ?_)
      exact VFact.mk rfl trivial
  · have hs : sqOK c i = false := by simpa using hs
    rw [hs, if_neg (by decide)] at hv
    refine Fn.of_vc cxOK Tryz.func12 rfl rfl rfl ?_
    repeat (first | refine VIf.tt ?_ | refine VIf.ff ?_)
    refine VFn.mk _ hv ?_
    rintro rs M1 hM1 rfl
    repeat (first | refine VIf.tt ?_ | refine VIf.ff ?_)
    exact VFact.mk (by rw [hs]; rfl) trivial
theorem Keys_fn (B : Nat) (M : Mem) : V.Fn Tryz.prog 34 [.map (some B)] M fun rs M' => ∃ Bm, rs = [.func (.func 56) #[] #[.pointer (some ⟨Bm, 0, none⟩)]] ∧ M' Bm = some (.cells #[.map (some B)] 63 (0, 0)) := by
  refine Fn.of_vc cxOK Tryz.func34 rfl rfl rfl ?_
  repeat (first | refine VIf.tt ?_ | refine VIf.ff ?_)
  refine VFzB.mk fun z1 B1 M1 hM1 hB1 => ?_
  repeat (first | refine VIf.tt ?_ | refine VIf.ff ?_)
  exact VFact.mk ⟨B1, rfl, hB1⟩ trivial
abbrev chSV (c : ChartS) (a b d : Value) : List SV := [.v (.int .i64 c.ver), .v (.int .i64 c.x), .v (.int .i64 c.y), .v (.int .i64 c.w), .v (.int .i64 c.h), .v (.int .i64 c.sz), .v a, .v b, .v d]
/-- What some cells touch. -/
def RisingI (n : Nat) (l : List Int) : Prop := ∀ i, i < l.length → (0 ≤ gi l i ∧ gi l i < n) ∧ (0 < i → gi l (i - 1) < gi l i)
instance (n : Nat) (l : List Int) : Decidable (RisingI n l) := by unfold RisingI; infer_instance
def celOK (c e : ChartS) (l : List Int) : Bool := validC c && validC e && decide (RisingI c.cs.length l)
theorem celOK_bad {c e : ChartS} {l : List Int} {i : Nat} (hi : i < l.length) (h : ¬ ((0 ≤ gi l i ∧ gi l i < c.cs.length) ∧ (0 < i → gi l (i - 1) < gi l i))) : celOK c e l = false := by
  unfold celOK
  rw [decide_eq_false (fun hr => h (hr i hi)), Bool.and_false]
def IsCel (c e : ChartS) (l zs : List Int) : Prop := zs.Pairwise (· < ·) ∧ ∀ x, x ∈ zs ↔ ∃ i ∈ l, x ∈ touC c i e
theorem IsCel.eq {c e : ChartS} {l z1 z2 : List Int} (h1 : IsCel c e l z1) (h2 : IsCel c e l z2) : z1 = z2 := sorted_ext h1.1 h2.1 fun x => by rw [h1.2, h2.2]
theorem touC_bd {c e : ChartS} {i x : Int} (h : x ∈ touC c i e) : 0 ≤ x ∧ x < e.cs.length := (underC_mem.1 h).1
theorem gi_eq {l : List Int} {j : Nat} (h : j < l.length) : gi l j = l[j] := by simp [gi, h]
theorem gi_mem {l : List Int} {j : Nat} (h : j < l.length) : gi l j ∈ l := by simp [gi, h]
set_option maxRecDepth 20000 in
set_option maxHeartbeats 2000000 in
theorem Cells_fn (c e : ChartS) (a b d a2 b2 d2 v : Value) (l : List Int) (M : Mem) (h : Cha M c a b d) (h2 : Cha M e a2 b2 d2) (hv : IntsV M v l) (hl : l.length ≤ 2000) : V.Fn Tryz.prog 15 [chV c a b d, chV e a2 b2 d2, v] M fun rs M' => if celOK c e l = true then ∃ u zs, rs = [u, .int .i64 0] ∧ IntsV M' u zs ∧ IsCel c e l zs else rs = [.slice none 0 0, .int .i64 1] := by
  have hA := areValid_fn c e a b d a2 b2 d2 M h h2
  have hT := fun i M' (hM : M.le M') => Touch_fn c e a b d a2 b2 d2 i M' (h.le hM) (h2.le hM)
  obtain ⟨ld, lc, rfl, hlm, hrd⟩ := hv.get
  obtain ⟨⟨ad, ka, rfl⟩, ⟨bd, kb, rfl⟩, dd, kd, rfl⟩ := h.shape
  obtain ⟨⟨ad2, ka2, rfl⟩, ⟨bd2, kb2, rfl⟩, dd2, kd2, rfl⟩ := h2.shape
  refine Fn.of_vc cxIOK Tryz.func15 rfl rfl rfl ?_
  repeat (first | refine VIf.tt ?_ | refine VIf.ff ?_)
  refine VOwn.frz ?_
  repeat (first | refine VIf.tt ?_ | refine VIf.ff ?_)
  refine VFn.mk _ hA ?_
  rintro rs M1 hM1 rfl
  repeat (first | refine VIf.tt ?_ | refine VIf.ff ?_)
  refine VIf.mk (fun e1 => ?_) (fun e1 => ?_)
  · repeat (first | refine VIf.tt ?_ | refine VIf.ff ?_)
    exact VFact.mk (by unfold celOK; rw [(Bool.not_eq_true' _).mp e1]; rfl) trivial
  have hVV := (Bool.not_eq_false' _).mp e1
  obtain ⟨hV1, hV2⟩ := Bool.and_eq_true _ _ ▸ hVV
  have e4 := (validC_frame hV2).1.2.2.2.2.1
  refine VMapMk.mk 3 4 (by kernel_rfl) (by kernel_rfl) (by kernel_rfl) (by kernel_rfl) fun B => ?_
  repeat (first | refine VIf.tt ?_ | refine VIf.ff ?_)
  refine VCode.loop cxIOK (Nat × List Int × Mem) (fun (⟨i, ks, M2⟩ : Nat × List Int × Mem) => ⟨[(2, .v (.slice ld l.length lc)), (3, .box 0 0), (4, .box 1 0), (8, .v (.map (some B))), (20, .v (.slice ld l.length lc)), (21, .v (.int .i64 l.length)), (22, .v (.int .i64 i))], [(2, some (.mp Tryz.prog 63 3 4 B ks)), (1, some (.box 26 (chSV e (.slice ad2 e.cs.length ka2) (.slice bd2 e.bs.length kb2) (.slice dd2 e.ls.length kd2)))), (0, some (.box 26 (chSV c (.slice ad c.cs.length ka) (.slice bd c.bs.length kb) (.slice dd c.ls.length kd))))], 3, M2, 62, ⟨fun _ => none, none, fun _ => none⟩⟩)
    (fun (⟨i, ks, M2⟩ : Nat × List Int × Mem) => (M1.le M2 ∧ i ≤ l.length ∧ ks.length ≤ i * 4000) ∧ (∀ x, x ∈ ks ↔ ∃ j, j < i ∧ x ∈ touC c (gi l j) e) ∧ ∀ j, j < i → (0 ≤ gi l j ∧ gi l j < c.cs.length) ∧ (0 < j → gi l (j - 1) < gi l j)) (fun (⟨i, _, _⟩ : Nat × List Int × Mem) => l.length - i) (0, [], M1)
    ⟨⟨Mem.le_refl _, Nat.zero_le _, Nat.zero_le _⟩, fun x => ⟨fun h => by simp at h, fun ⟨j, hj, _⟩ => absurd hj (Nat.not_lt_zero _)⟩, fun j hj => absurd hj (Nat.not_lt_zero _)⟩ (Wk.mk' id (by repeat' constructor) (by repeat' constructor) (injOK_id _) rfl rfl rfl) ?_
  rintro ⟨i, ks, M2⟩ ⟨⟨hM2, hi, hkl⟩, hmem, hris⟩ m
  have m2 := hM1.trans hM2
  repeat (first | refine VIf.tt ?_ | refine VIf.ff ?_)
  refine VIf.mk (fun hlt => ?_) (fun hge => ?_)
  · have hlt : i < l.length := lt_of_dec hlt
    obtain ⟨ad', ead, _, hc1⟩ := hrd M2 m2 i hlt
    repeat (first | refine VIf.tt ?_ | refine VIf.ff ?_)
    refine VIdx.mk ad' i ead rfl hlt ?_
    repeat (first | refine VIf.tt ?_ | refine VIf.ff ?_)
    refine VRead.mk _ hc1 ?_
    have F := hT (gi l i) M2 m2
    by_cases hs : (sqOK c (gi l i) && validC e) = true
    rotate_left
    · have hs' : (sqOK c (gi l i) && validC e) = false := by simpa using hs
      rw [hs'] at F
      simp only [↓reduceIte, Bool.false_eq_true] at F
      repeat (first | refine VIf.tt ?_ | refine VIf.ff ?_)
      refine VOwn.frz ?_
      repeat (first | refine VIf.tt ?_ | refine VIf.ff ?_)
      refine VFn.mk _ F ?_
      rintro rs M3 hM3 rfl
      repeat (first | refine VIf.tt ?_ | refine VIf.ff ?_)
      refine VFact.mk ?_ trivial
      rw [celOK_bad hlt (fun h => hs (by rw [hV2, Bool.and_true]; unfold sqOK; rw [hV1, decide_eq_true h.1]; rfl))]
      rfl
    rw [hs] at F
    simp only [↓reduceIte] at F
    have hin : 0 ≤ gi l i ∧ gi l i < c.cs.length := by
      unfold sqOK at hs
      simp only [Bool.and_eq_true, decide_eq_true_eq] at hs
      exact hs.1.2
    repeat (first | refine VIf.tt ?_ | refine VIf.ff ?_)
    refine VOwn.frz ?_
    repeat (first | refine VIf.tt ?_ | refine VIf.ff ?_)
    refine VFn.mk _ F ?_
    rintro rs M3 hM3 ⟨u, rfl, hu⟩
    obtain ⟨ud, uc, rfl, hum, hur⟩ := hu.get
    have hgt : ∀ j, j < (touC c (gi l i) e).length → 0 ≤ gi (touC c (gi l i) e) j ∧ gi (touC c (gi l i) e) j < e.cs.length := fun j hj => touC_bd (i := gi l i) (c := c) (gi_mem hj)
    have hlen : (touC c (gi l i) e).length ≤ e.cs.length := underC_len e _ _
    repeat (first | refine VIf.tt ?_ | refine VIf.ff ?_)
    refine VIf.mk (fun hp => ?_) (fun hp => ?_)
    · have hp : 0 < i := by have := of_decide_eq_true hp; omega
      obtain ⟨ad2', ead2, _, hc2⟩ := hrd M3 (m2.trans hM3) (i - 1) (by omega)
      repeat (first | refine VIf.tt ?_ | refine VIf.ff ?_)
      refine VArith.ok (by first | omega | (simp only; omega)) (by first | omega | (simp only; omega)) ?_
      repeat (first | refine VIf.tt ?_ | refine VIf.ff ?_)
      refine VIdx.mk ad2' (i - 1) ead2 (by omega) (by omega) ?_
      repeat (first | refine VIf.tt ?_ | refine VIf.ff ?_)
      refine VRead.mk _ hc2 ?_
      repeat (first | refine VIf.tt ?_ | refine VIf.ff ?_)
      refine VIf.mk (fun hb => ?_) (fun hb => ?_)
      · have hb := of_decide_eq_true hb
        repeat (first | refine VIf.tt ?_ | refine VIf.ff ?_)
        refine VFact.mk ?_ trivial
        rw [celOK_bad hlt (fun h => by have := h.2 hp; omega)]
        rfl
      have hb := of_decide_eq_false hb
      repeat (first | refine VIf.tt ?_ | refine VIf.ff ?_)
      refine VCode.loop cxIOK (Nat × List Int) (fun (⟨k, k2⟩ : Nat × List Int) => ⟨[(2, .v (.slice ld l.length lc)), (3, .box 0 0), (4, .box 1 0), (8, .v (.map (some B))), (20, .v (.slice ld l.length lc)), (21, .v (.int .i64 l.length)), (22, .v (.int .i64 i)), (49, .v (.slice ud (touC c (gi l i) e).length uc)), (50, .v (.int .i64 (touC c (gi l i) e).length)), (51, .v (.int .i64 k))], [(2, some (.mp Tryz.prog 63 3 4 B k2)), (1, some (.box 26 (chSV e (.slice ad2 e.cs.length ka2) (.slice bd2 e.bs.length kb2) (.slice dd2 e.ls.length kd2)))), (0, some (.box 26 (chSV c (.slice ad c.cs.length ka) (.slice bd c.bs.length kb) (.slice dd c.ls.length kd))))], 3, M3, 62, ⟨fun _ => none, none, fun _ => none⟩⟩)
        (fun (⟨k, k2⟩ : Nat × List Int) => (k ≤ (touC c (gi l i) e).length ∧ k2.length = ks.length + k) ∧ ∀ x, x ∈ k2 ↔ x ∈ ks ∨ ∃ j, j < k ∧ gi (touC c (gi l i) e) j = x) (fun (⟨k, _⟩ : Nat × List Int) => (touC c (gi l i) e).length - k) (0, ks)
        ⟨⟨Nat.zero_le _, rfl⟩, fun x => ⟨.inl, fun h => by rcases h with h | ⟨j, hj, _⟩; exact h; exact absurd hj (Nat.not_lt_zero _)⟩⟩ (Wk.mk' id (by repeat' constructor) (by repeat' constructor) (injOK_id _) rfl rfl rfl) ?_
      rintro ⟨k, k2⟩ ⟨⟨hk, hk2⟩, hm2⟩ mm
      repeat (first | refine VIf.tt ?_ | refine VIf.ff ?_)
      refine VIf.mk (fun hlk => ?_) (fun hgk => ?_)
      · have hlk : k < (touC c (gi l i) e).length := lt_of_dec hlk
        obtain ⟨au, eau, _, hcu⟩ := hur M3 (Mem.le_refl _) k hlk
        have hg := hgt k hlk
        repeat (first | refine VIf.tt ?_ | refine VIf.ff ?_)
        refine VIdx.mk au k eau rfl hlk ?_
        repeat (first | refine VIf.tt ?_ | refine VIf.ff ?_)
        refine VRead.mk _ hcu ?_
        repeat (first | refine VIf.tt ?_ | refine VIf.ff ?_)
        refine VFact.mk ⟨⟨rfl, rfl, rfl⟩, by omega, by unfold maxLen; omega⟩ ?_
        repeat (first | refine VIf.tt ?_ | refine VIf.ff ?_)
        refine VArith.ok (by first | omega | (simp only; omega)) (by first | omega | (simp only; omega)) ?_
        refine ⟨(k + 1, gi (touC c (gi l i) e) k :: k2), ⟨⟨hlk, by simp [hk2]; omega⟩, fun x => ?_⟩, (by first | omega | (simp only; omega)), (Wk.mk' id (by repeat' constructor) (by repeat' constructor) (injOK_id _) rfl rfl rfl)⟩
        rw [List.mem_cons, hm2]
        constructor
        · rintro (rfl | h | ⟨j, hj, h⟩)
          · exact .inr ⟨k, Nat.lt_succ_self _, rfl⟩
          · exact .inl h
          · exact .inr ⟨j, by omega, h⟩
        · rintro (h | ⟨j, hj, h⟩)
          · exact .inr (.inl h)
          · by_cases ej : j = k
            · subst ej; exact .inl h.symm
            · exact .inr (.inr ⟨j, by omega, h⟩)
      · have hkk : k = (touC c (gi l i) e).length := by have := ge_of_dec hgk; omega
        repeat (first | refine VIf.tt ?_ | refine VIf.ff ?_)
        refine VArith.ok (by first | omega | (simp only; omega)) (by first | omega | (simp only; omega)) ?_
        refine ⟨(i + 1, k2, M3), ⟨⟨hM2.trans hM3, hlt, by omega⟩, fun x => ?_, fun j hj => ?_⟩, (by first | omega | (simp only; omega)), (Wk.mk' id (by repeat' constructor) (by repeat' constructor) (injOK_id _) rfl rfl rfl)⟩
        · rw [hm2, hmem, hkk]
          constructor
          · rintro (⟨j, hj, h⟩ | ⟨j, hj, h⟩)
            · exact ⟨j, by omega, h⟩
            · exact ⟨i, Nat.lt_succ_self _, h ▸ gi_mem hj⟩
          · rintro ⟨j, hj, h⟩
            by_cases ej : j = i
            · subst ej
              obtain ⟨q, hq, e⟩ := List.getElem_of_mem h
              exact .inr ⟨q, hq, (gi_eq hq).trans e⟩
            · exact .inl ⟨j, by omega, h⟩
        · by_cases ej : j = i
          · subst ej
            exact ⟨hin, fun h0 => by have := hb; omega⟩
          · exact hris j (by omega)
    · have hp : ¬ 0 < i := by have := of_decide_eq_false hp; omega
      repeat (first | refine VIf.tt ?_ | refine VIf.ff ?_)
      refine VCode.loop cxIOK (Nat × List Int) (fun (⟨k, k2⟩ : Nat × List Int) => ⟨[(2, .v (.slice ld l.length lc)), (3, .box 0 0), (4, .box 1 0), (8, .v (.map (some B))), (20, .v (.slice ld l.length lc)), (21, .v (.int .i64 l.length)), (22, .v (.int .i64 i)), (49, .v (.slice ud (touC c (gi l i) e).length uc)), (50, .v (.int .i64 (touC c (gi l i) e).length)), (51, .v (.int .i64 k))], [(2, some (.mp Tryz.prog 63 3 4 B k2)), (1, some (.box 26 (chSV e (.slice ad2 e.cs.length ka2) (.slice bd2 e.bs.length kb2) (.slice dd2 e.ls.length kd2)))), (0, some (.box 26 (chSV c (.slice ad c.cs.length ka) (.slice bd c.bs.length kb) (.slice dd c.ls.length kd))))], 3, M3, 62, ⟨fun _ => none, none, fun _ => none⟩⟩)
        (fun (⟨k, k2⟩ : Nat × List Int) => (k ≤ (touC c (gi l i) e).length ∧ k2.length = ks.length + k) ∧ ∀ x, x ∈ k2 ↔ x ∈ ks ∨ ∃ j, j < k ∧ gi (touC c (gi l i) e) j = x) (fun (⟨k, _⟩ : Nat × List Int) => (touC c (gi l i) e).length - k) (0, ks)
        ⟨⟨Nat.zero_le _, rfl⟩, fun x => ⟨.inl, fun h => by rcases h with h | ⟨j, hj, _⟩; exact h; exact absurd hj (Nat.not_lt_zero _)⟩⟩ (Wk.mk' id (by repeat' constructor) (by repeat' constructor) (injOK_id _) rfl rfl rfl) ?_
      rintro ⟨k, k2⟩ ⟨⟨hk, hk2⟩, hm2⟩ mm
      repeat (first | refine VIf.tt ?_ | refine VIf.ff ?_)
      refine VIf.mk (fun hlk => ?_) (fun hgk => ?_)
      · have hlk : k < (touC c (gi l i) e).length := lt_of_dec hlk
        obtain ⟨au, eau, _, hcu⟩ := hur M3 (Mem.le_refl _) k hlk
        have hg := hgt k hlk
        repeat (first | refine VIf.tt ?_ | refine VIf.ff ?_)
        refine VIdx.mk au k eau rfl hlk ?_
        repeat (first | refine VIf.tt ?_ | refine VIf.ff ?_)
        refine VRead.mk _ hcu ?_
        repeat (first | refine VIf.tt ?_ | refine VIf.ff ?_)
        refine VFact.mk ⟨⟨rfl, rfl, rfl⟩, by omega, by unfold maxLen; omega⟩ ?_
        repeat (first | refine VIf.tt ?_ | refine VIf.ff ?_)
        refine VArith.ok (by first | omega | (simp only; omega)) (by first | omega | (simp only; omega)) ?_
        refine ⟨(k + 1, gi (touC c (gi l i) e) k :: k2), ⟨⟨hlk, by simp [hk2]; omega⟩, fun x => ?_⟩, (by first | omega | (simp only; omega)), (Wk.mk' id (by repeat' constructor) (by repeat' constructor) (injOK_id _) rfl rfl rfl)⟩
        rw [List.mem_cons, hm2]
        constructor
        · rintro (rfl | h | ⟨j, hj, h⟩)
          · exact .inr ⟨k, Nat.lt_succ_self _, rfl⟩
          · exact .inl h
          · exact .inr ⟨j, by omega, h⟩
        · rintro (h | ⟨j, hj, h⟩)
          · exact .inr (.inl h)
          · by_cases ej : j = k
            · subst ej; exact .inl h.symm
            · exact .inr (.inr ⟨j, by omega, h⟩)
      · have hkk : k = (touC c (gi l i) e).length := by have := ge_of_dec hgk; omega
        repeat (first | refine VIf.tt ?_ | refine VIf.ff ?_)
        refine VArith.ok (by first | omega | (simp only; omega)) (by first | omega | (simp only; omega)) ?_
        refine ⟨(i + 1, k2, M3), ⟨⟨hM2.trans hM3, hlt, by omega⟩, fun x => ?_, fun j hj => ?_⟩, (by first | omega | (simp only; omega)), (Wk.mk' id (by repeat' constructor) (by repeat' constructor) (injOK_id _) rfl rfl rfl)⟩
        · rw [hm2, hmem, hkk]
          constructor
          · rintro (⟨j, hj, h⟩ | ⟨j, hj, h⟩)
            · exact ⟨j, by omega, h⟩
            · exact ⟨i, Nat.lt_succ_self _, h ▸ gi_mem hj⟩
          · rintro ⟨j, hj, h⟩
            by_cases ej : j = i
            · subst ej
              obtain ⟨q, hq, e⟩ := List.getElem_of_mem h
              exact .inr ⟨q, hq, (gi_eq hq).trans e⟩
            · exact .inl ⟨j, by omega, h⟩
        · by_cases ej : j = i
          · subst ej
            exact ⟨hin, fun h0 => by have := hp; omega⟩
          · exact hris j (by omega)
  · have : i = l.length := by have := ge_of_dec hge; omega
    subst this
    have hok : celOK c e l = true := by unfold celOK; rw [hV1, hV2, decide_eq_true (show RisingI c.cs.length l from fun j hj => hris j hj)]; rfl
    rw [hok]
    repeat (first | refine VIf.tt ?_ | refine VIf.ff ?_)
    refine VOwn.frz ?_
    repeat (first | refine VIf.tt ?_ | refine VIf.ff ?_)
    refine VFn.mk _ (Keys_fn B M2) ?_
    rintro rs M3 hM3 ⟨Bm, rfl, hBm⟩
    repeat (first | refine VIf.tt ?_ | refine VIf.ff ?_)
    refine VOwn.own ?_
    refine Sorted_call (j := 2) hBm rfl rfl (by omega) ?_
    intro zs z1 z2
    repeat (first | refine VIf.tt ?_ | refine VIf.ff ?_)
    refine VFz.mk fun x B4 M4 hM4 hx => ?_
    have hx : SlAt M4 1 x zs.length (zs.map (Value.int .i64)) := hx
    have hz64 : ∀ i ∈ zs, i64r i := fun i hi => by
      obtain ⟨j, _, hj⟩ := (hmem i).1 ((z2 i).1 hi)
      have := touC_bd hj
      unfold i64r; omega
    repeat (first | refine VIf.tt ?_ | refine VIf.ff ?_)
    refine VFact.mk (show ∃ u zs, _ = _ ∧ _ from ⟨x, zs, rfl, IntsV.of hx hz64, z1, fun y => ?_⟩) trivial
    rw [z2, hmem]
    constructor
    · rintro ⟨j, hj, h⟩; exact ⟨_, gi_mem hj, h⟩
    · rintro ⟨g, hg, h⟩
      obtain ⟨j, hj, rfl⟩ := List.getElem_of_mem hg
      exact ⟨j, hj, by rw [gi_eq hj]; exact h⟩
end Go.Proofs.YtegmjmdkhbibjaaGreat

/- Contracts of translate: Keeps. -/
namespace Go.Proofs.YtegmjmdkhbibjaaGreat
open Go Go.V Go.RowKit
theorem IndexI1_fn (v : Value) (l : List Int) (fid : Nat) (c0 : Value) (g : Nat → Bool) (M : Mem) (hv : IntsV M v l) (hg : ∀ i, i < l.length → FnP Tryz.prog fid [.int .i64 (gi l i), c0] M [.bool (g i)]) :
    V.Fn Tryz.prog 57 [v, .func (.func fid) #[] #[c0]] M fun rs M' => M' = M ∧ ∃ k : Int, rs = [.int .i64 k] ∧ (0 ≤ k ↔ (List.range l.length).any g = true) := by
  obtain ⟨ad, c, rfl, hm, hrd⟩ := hv.get
  refine Fn.of_vc cxOK Tryz.func57 rfl rfl rfl ?_
  repeat (first | refine VIf.tt ?_ | refine VIf.ff ?_)
  refine VCode.loop cxOK Nat (fun i => ⟨[(0, .v (.slice ad l.length c)), (1, .v (.func (.func fid) #[] #[c0])), (7, .v (.int .i64 l.length)), (8, .v (.int .i64 i))], [], 0, M, 19, ⟨fun _ => none, none, fun _ => none⟩⟩)
    (fun i => i ≤ l.length ∧ ∀ j, j < i → g j = false) (fun i => l.length - i) 0 ⟨Nat.zero_le _, fun j hj => absurd hj (Nat.not_lt_zero _)⟩ (Wk.mk' id (by repeat' constructor) (by repeat' constructor) (injOK_id _) rfl rfl rfl) ?_
  rintro i ⟨hi, hz⟩ m
  repeat (first | refine VIf.tt ?_ | refine VIf.ff ?_)
  refine VIf.mk (fun hlt => ?_) (fun hge => ?_)
  · have hlt := lt_of_dec hlt
    obtain ⟨ad', ead, _, hpi⟩ := hrd M (Mem.le_refl _) i hlt
    repeat (first | refine VIf.tt ?_ | refine VIf.ff ?_)
    refine VIdx.mk ad' i ead rfl hlt ?_
    repeat (first | refine VIf.tt ?_ | refine VIf.ff ?_)
    refine VRead.mk _ hpi ?_
    repeat (first | refine VIf.tt ?_ | refine VIf.ff ?_)
    refine VFn.p (hg i hlt) ?_
    repeat (first | refine VIf.tt ?_ | refine VIf.ff ?_)
    refine VIf.mk (fun hc => ?_) (fun hc => ?_)
    · repeat (first | refine VIf.tt ?_ | refine VIf.ff ?_)
      refine VFact.mk ⟨rfl, i, rfl, ?_⟩ trivial
      have : (List.range l.length).any g = true := List.any_eq_true.2 ⟨i, List.mem_range.2 hlt, hc⟩
      simp [this]
    · repeat (first | refine VIf.tt ?_ | refine VIf.ff ?_)
      refine VArith.ok (by first | omega | (simp only; omega)) (by first | omega | (simp only; omega)) ?_
      refine ⟨i + 1, ⟨hlt, fun j hj => ?_⟩, (by first | omega | (simp only; omega)), (Wk.mk' id (by repeat' constructor) (by repeat' constructor) (injOK_id _) rfl rfl rfl)⟩
      by_cases e : j = i
      · subst e; exact hc
      · exact hz j (by omega)
  · have : i = l.length := by have := ge_of_dec hge; omega
    subst this
    repeat (first | refine VIf.tt ?_ | refine VIf.ff ?_)
    refine VFact.mk ⟨rfl, -1, rfl, ?_⟩ trivial
    have : (List.range l.length).any g = false := List.any_eq_false.2 fun j hj => by rw [hz j (List.mem_range.1 hj)]; decide
    simp [this]
theorem ContainsI1_fn (v : Value) (l : List Int) (fid : Nat) (c0 : Value) (g : Nat → Bool) (M : Mem) (hv : IntsV M v l) (hg : ∀ i, i < l.length → FnP Tryz.prog fid [.int .i64 (gi l i), c0] M [.bool (g i)]) :
    FnP Tryz.prog 37 [v, .func (.func fid) #[] #[c0]] M [.bool ((List.range l.length).any g)] := by
  have hI := IndexI1_fn v l fid c0 g M hv hg
  obtain ⟨ad, c, rfl, _⟩ := hv.get
  refine Fn.of_vc cxOK Tryz.func37 rfl rfl rfl ?_
  repeat (first | refine VIf.tt ?_ | refine VIf.ff ?_)
  refine VFn.mk _ hI ?_
  rintro rs M1 hM1 ⟨rfl, k, rfl, hk⟩
  repeat (first | refine VIf.tt ?_ | refine VIf.ff ?_)
  refine VFact.mk ⟨bool1 ?_, rfl⟩ trivial
  rw [← hk]; simp
theorem IndexI2_fn (v : Value) (l : List Int) (fid : Nat) (c0 c1 : Value) (g : Nat → Bool) (M : Mem) (hv : IntsV M v l) (hg : ∀ i, i < l.length → FnP Tryz.prog fid [.int .i64 (gi l i), c0, c1] M [.bool (g i)]) :
    V.Fn Tryz.prog 57 [v, .func (.func fid) #[] #[c0, c1]] M fun rs M' => M' = M ∧ ∃ k : Int, rs = [.int .i64 k] ∧ (0 ≤ k ↔ (List.range l.length).any g = true) := by
  obtain ⟨ad, c, rfl, hm, hrd⟩ := hv.get
  refine Fn.of_vc cxOK Tryz.func57 rfl rfl rfl ?_
  repeat (first | refine VIf.tt ?_ | refine VIf.ff ?_)
  refine VCode.loop cxOK Nat (fun i => ⟨[(0, .v (.slice ad l.length c)), (1, .v (.func (.func fid) #[] #[c0, c1])), (7, .v (.int .i64 l.length)), (8, .v (.int .i64 i))], [], 0, M, 19, ⟨fun _ => none, none, fun _ => none⟩⟩)
    (fun i => i ≤ l.length ∧ ∀ j, j < i → g j = false) (fun i => l.length - i) 0 ⟨Nat.zero_le _, fun j hj => absurd hj (Nat.not_lt_zero _)⟩ (Wk.mk' id (by repeat' constructor) (by repeat' constructor) (injOK_id _) rfl rfl rfl) ?_
  rintro i ⟨hi, hz⟩ m
  repeat (first | refine VIf.tt ?_ | refine VIf.ff ?_)
  refine VIf.mk (fun hlt => ?_) (fun hge => ?_)
  · have hlt := lt_of_dec hlt
    obtain ⟨ad', ead, _, hpi⟩ := hrd M (Mem.le_refl _) i hlt
    repeat (first | refine VIf.tt ?_ | refine VIf.ff ?_)
    refine VIdx.mk ad' i ead rfl hlt ?_
    repeat (first | refine VIf.tt ?_ | refine VIf.ff ?_)
    refine VRead.mk _ hpi ?_
    repeat (first | refine VIf.tt ?_ | refine VIf.ff ?_)
    refine VFn.p (hg i hlt) ?_
    repeat (first | refine VIf.tt ?_ | refine VIf.ff ?_)
    refine VIf.mk (fun hc => ?_) (fun hc => ?_)
    · repeat (first | refine VIf.tt ?_ | refine VIf.ff ?_)
      refine VFact.mk ⟨rfl, i, rfl, ?_⟩ trivial
      have : (List.range l.length).any g = true := List.any_eq_true.2 ⟨i, List.mem_range.2 hlt, hc⟩
      simp [this]
    · repeat (first | refine VIf.tt ?_ | refine VIf.ff ?_)
      refine VArith.ok (by first | omega | (simp only; omega)) (by first | omega | (simp only; omega)) ?_
      refine ⟨i + 1, ⟨hlt, fun j hj => ?_⟩, (by first | omega | (simp only; omega)), (Wk.mk' id (by repeat' constructor) (by repeat' constructor) (injOK_id _) rfl rfl rfl)⟩
      by_cases e : j = i
      · subst e; exact hc
      · exact hz j (by omega)
  · have : i = l.length := by have := ge_of_dec hge; omega
    subst this
    repeat (first | refine VIf.tt ?_ | refine VIf.ff ?_)
    refine VFact.mk ⟨rfl, -1, rfl, ?_⟩ trivial
    have : (List.range l.length).any g = false := List.any_eq_false.2 fun j hj => by rw [hz j (List.mem_range.1 hj)]; decide
    simp [this]
theorem ContainsI2_fn (v : Value) (l : List Int) (fid : Nat) (c0 c1 : Value) (g : Nat → Bool) (M : Mem) (hv : IntsV M v l) (hg : ∀ i, i < l.length → FnP Tryz.prog fid [.int .i64 (gi l i), c0, c1] M [.bool (g i)]) :
    FnP Tryz.prog 37 [v, .func (.func fid) #[] #[c0, c1]] M [.bool ((List.range l.length).any g)] := by
  have hI := IndexI2_fn v l fid c0 c1 g M hv hg
  obtain ⟨ad, c, rfl, _⟩ := hv.get
  refine Fn.of_vc cxOK Tryz.func37 rfl rfl rfl ?_
  repeat (first | refine VIf.tt ?_ | refine VIf.ff ?_)
  refine VFn.mk _ hI ?_
  rintro rs M1 hM1 ⟨rfl, k, rfl, hk⟩
  repeat (first | refine VIf.tt ?_ | refine VIf.ff ?_)
  refine VFact.mk ⟨bool1 ?_, rfl⟩ trivial
  rw [← hk]; simp

theorem keeps1_fn (p q r s : Pt) (B1 B2 B3 B4 : Nat) (M : Mem) (h1 : M B1 = some (.cells #[.int .i64 p.1, .int .i64 p.2] 46 (0, 0))) (h2 : M B2 = some (.cells #[.int .i64 q.1, .int .i64 q.2] 46 (0, 0))) (h3 : M B3 = some (.cells #[.int .i64 r.1, .int .i64 r.2] 46 (0, 0))) (h4 : M B4 = some (.cells #[.int .i64 s.1, .int .i64 s.2] 46 (0, 0))) :
    FnP Tryz.prog 35 [.pointer (some ⟨B1, 0, none⟩), .pointer (some ⟨B2, 0, none⟩), .pointer (some ⟨B3, 0, none⟩), .pointer (some ⟨B4, 0, none⟩)] M [.bool (decide (p.1 ≤ q.1) && decide (p.2 ≤ q.2) && decide (r.1 ≤ s.1) && decide (r.2 ≤ s.2))] := by
  refine Fn.of_vc cxOK Tryz.func35 rfl rfl rfl ?_
  repeat (first | refine VIf.tt ?_ | refine VIf.ff ?_)
  refine VRead.mk (.int .i64 p.1) (cellAt h1 0 rfl) ?_
  repeat (first | refine VIf.tt ?_ | refine VIf.ff ?_)
  refine VRead.mk (.int .i64 q.1) (cellAt h2 0 rfl) ?_
  repeat (first | refine VIf.tt ?_ | refine VIf.ff ?_)
  refine VIf.mk (fun e1 => ?_) (fun e1 => ?_)
  rotate_left
  · repeat (first | refine VIf.tt ?_ | refine VIf.ff ?_)
    refine VFact.mk ⟨?_, rfl⟩ trivial
    rw [e1]; rfl
  repeat (first | refine VIf.tt ?_ | refine VIf.ff ?_)
  refine VRead.mk (.int .i64 p.2) (cellAt h1 1 rfl) ?_
  repeat (first | refine VIf.tt ?_ | refine VIf.ff ?_)
  refine VRead.mk (.int .i64 q.2) (cellAt h2 1 rfl) ?_
  repeat (first | refine VIf.tt ?_ | refine VIf.ff ?_)
  refine VIf.mk (fun e2 => ?_) (fun e2 => ?_)
  rotate_left
  · repeat (first | refine VIf.tt ?_ | refine VIf.ff ?_)
    refine VFact.mk ⟨?_, rfl⟩ trivial
    rw [e2, Bool.and_false]; rfl
  repeat (first | refine VIf.tt ?_ | refine VIf.ff ?_)
  refine VRead.mk (.int .i64 r.1) (cellAt h3 0 rfl) ?_
  repeat (first | refine VIf.tt ?_ | refine VIf.ff ?_)
  refine VRead.mk (.int .i64 s.1) (cellAt h4 0 rfl) ?_
  repeat (first | refine VIf.tt ?_ | refine VIf.ff ?_)
  refine VIf.mk (fun e3 => ?_) (fun e3 => ?_)
  rotate_left
  · repeat (first | refine VIf.tt ?_ | refine VIf.ff ?_)
    refine VFact.mk ⟨?_, rfl⟩ trivial
    rw [e3, Bool.and_false]; rfl
  repeat (first | refine VIf.tt ?_ | refine VIf.ff ?_)
  refine VRead.mk (.int .i64 r.2) (cellAt h3 1 rfl) ?_
  repeat (first | refine VIf.tt ?_ | refine VIf.ff ?_)
  refine VRead.mk (.int .i64 s.2) (cellAt h4 1 rfl) ?_
  repeat (first | refine VIf.tt ?_ | refine VIf.ff ?_)
  refine VFact.mk ⟨?_, rfl⟩ trivial
  rw [e1, e2, e3]; rfl
theorem keeps21_fn (c : ChartS) (a b d : Value) (i : Int) (B : Nat) (M : Mem) (hB : M B = some (.cells (chC c a b d) 26 (0, 0))) (ha : CelsV M a c.cs) (hi : 0 ≤ i ∧ i < c.cs.length) :
    FnP Tryz.prog 38 [.int .i64 i, .pointer (some ⟨B, 0, none⟩)] M [.bool (gce c.cs i.toNat).vd] := by
  obtain ⟨ad, k, rfl, hm, hrd⟩ := ha.get
  obtain ⟨ad', ead, _, hp⟩ := hrd M (Mem.le_refl _) i.toNat (by omega)
  refine Fn.of_vc cxOK Tryz.func38 rfl rfl rfl ?_
  repeat (first | refine VIf.tt ?_ | refine VIf.ff ?_)
  refine VRead.mk (.slice ad c.cs.length k) (cellAt hB 6 rfl) ?_
  repeat (first | refine VIf.tt ?_ | refine VIf.ff ?_)
  refine VIdx.mk ad' i.toNat ead (by omega) (by omega) ?_
  repeat (first | refine VIf.tt ?_ | refine VIf.ff ?_)
  refine VRead.mk (.bool (gce c.cs i.toNat).vd) (hp 3 _ rfl) ?_
  repeat (first | refine VIf.tt ?_ | refine VIf.ff ?_)
  exact VFact.mk ⟨rfl, rfl⟩ trivial
theorem keeps31_fn (c : ChartS) (x : CellS) (a b d : Value) (i : Int) (B Bc : Nat) (M : Mem) (hB : M B = some (.cells (chC c a b d) 26 (0, 0))) (hC : M Bc = some (.cells #[.int .i64 x.lo, .int .i64 x.hi, .int .i64 x.dt, .bool x.vd] 56 (0, 0))) (ha : CelsV M a c.cs) (hi : 0 ≤ i ∧ i < c.cs.length) :
    FnP Tryz.prog 40 [.int .i64 i, .pointer (some ⟨B, 0, none⟩), .pointer (some ⟨Bc, 0, none⟩)] M [.bool (decide ((gce c.cs i.toNat).lo < x.lo))] := by
  obtain ⟨ad, k, rfl, hm, hrd⟩ := ha.get
  obtain ⟨ad', ead, _, hp⟩ := hrd M (Mem.le_refl _) i.toNat (by omega)
  refine Fn.of_vc cxOK Tryz.func40 rfl rfl rfl ?_
  repeat (first | refine VIf.tt ?_ | refine VIf.ff ?_)
  refine VDraw.go (by kernel_rfl) ?_
  repeat (first | refine VIf.tt ?_ | refine VIf.ff ?_)
  refine VRead.mk (.slice ad c.cs.length k) (cellAt hB 6 rfl) ?_
  repeat (first | refine VIf.tt ?_ | refine VIf.ff ?_)
  refine VIdx.mk ad' i.toNat ead (by omega) (by omega) ?_
  repeat (first | refine VIf.tt ?_ | refine VIf.ff ?_)
  refine VRead.mk (.int .i64 (gce c.cs i.toNat).lo) (hp 0 _ rfl) ?_
  repeat (first | refine VIf.tt ?_ | refine VIf.ff ?_)
  refine VRead.mk (.int .i64 x.lo) (cellAt hC 0 rfl) ?_
  repeat (first | refine VIf.tt ?_ | refine VIf.ff ?_)
  exact VFact.mk ⟨rfl, rfl⟩ trivial
theorem keeps41_fn (c : ChartS) (x : CellS) (a b d : Value) (i : Int) (B Bc : Nat) (M : Mem) (hB : M B = some (.cells (chC c a b d) 26 (0, 0))) (hC : M Bc = some (.cells #[.int .i64 x.lo, .int .i64 x.hi, .int .i64 x.dt, .bool x.vd] 56 (0, 0))) (ha : CelsV M a c.cs) (hi : 0 ≤ i ∧ i < c.cs.length) :
    FnP Tryz.prog 42 [.int .i64 i, .pointer (some ⟨B, 0, none⟩), .pointer (some ⟨Bc, 0, none⟩)] M [.bool (decide ((gce c.cs i.toNat).hi > x.hi))] := by
  obtain ⟨ad, k, rfl, hm, hrd⟩ := ha.get
  obtain ⟨ad', ead, _, hp⟩ := hrd M (Mem.le_refl _) i.toNat (by omega)
  refine Fn.of_vc cxOK Tryz.func42 rfl rfl rfl ?_
  repeat (first | refine VIf.tt ?_ | refine VIf.ff ?_)
  refine VDraw.go (by kernel_rfl) ?_
  repeat (first | refine VIf.tt ?_ | refine VIf.ff ?_)
  refine VRead.mk (.slice ad c.cs.length k) (cellAt hB 6 rfl) ?_
  repeat (first | refine VIf.tt ?_ | refine VIf.ff ?_)
  refine VIdx.mk ad' i.toNat ead (by omega) (by omega) ?_
  repeat (first | refine VIf.tt ?_ | refine VIf.ff ?_)
  refine VRead.mk (.int .i64 (gce c.cs i.toNat).hi) (hp 1 _ rfl) ?_
  repeat (first | refine VIf.tt ?_ | refine VIf.ff ?_)
  refine VRead.mk (.int .i64 x.hi) (cellAt hC 1 rfl) ?_
  repeat (first | refine VIf.tt ?_ | refine VIf.ff ?_)
  exact VFact.mk ⟨rfl, rfl⟩ trivial
theorem keeps2_fn (c : ChartS) (a b d u : Value) (l : List Int) (Bl B : Nat) (M : Mem) (hl : IntsV M u l) (hu : M Bl = some (.cells #[u] 27 (0, 0))) (hB : M B = some (.cells (chC c a b d) 26 (0, 0))) (ha : CelsV M a c.cs) (hin : ∀ j, j < l.length → 0 ≤ gi l j ∧ gi l j < c.cs.length) :
    FnP Tryz.prog 36 [.pointer (some ⟨Bl, 0, none⟩), .pointer (some ⟨B, 0, none⟩)] M [.bool (!(List.range l.length).any fun j => (gce c.cs (gi l j).toNat).vd)] := by
  have F := ContainsI1_fn u l _ _ (fun j => (gce c.cs (gi l j).toNat).vd) M hl fun j hj => keeps21_fn c a b d (gi l j) B M hB ha (hin j hj)
  obtain ⟨ud, uc, rfl, _⟩ := hl.get
  refine Fn.of_vc cxOK Tryz.func36 rfl rfl rfl ?_
  repeat (first | refine VIf.tt ?_ | refine VIf.ff ?_)
  refine VRead.mk (.slice ud l.length uc) (cellAt hu 0 rfl) ?_
  repeat (first | refine VIf.tt ?_ | refine VIf.ff ?_)
  refine VFn.p F ?_
  repeat (first | refine VIf.tt ?_ | refine VIf.ff ?_)
  exact VFact.mk ⟨rfl, rfl⟩ trivial
theorem keeps3_fn (c : ChartS) (x : CellS) (a b d u : Value) (l : List Int) (Bl B Bc : Nat) (M : Mem) (hl : IntsV M u l) (hu : M Bl = some (.cells #[u] 27 (0, 0))) (hB : M B = some (.cells (chC c a b d) 26 (0, 0))) (hC : M Bc = some (.cells #[.int .i64 x.lo, .int .i64 x.hi, .int .i64 x.dt, .bool x.vd] 56 (0, 0))) (ha : CelsV M a c.cs) (hin : ∀ j, j < l.length → 0 ≤ gi l j ∧ gi l j < c.cs.length) :
    FnP Tryz.prog 39 [.pointer (some ⟨Bl, 0, none⟩), .pointer (some ⟨B, 0, none⟩), .pointer (some ⟨Bc, 0, none⟩)] M [.bool (!(List.range l.length).any fun j => decide ((gce c.cs (gi l j).toNat).lo < x.lo))] := by
  have F := ContainsI2_fn u l _ _ _ (fun j => decide ((gce c.cs (gi l j).toNat).lo < x.lo)) M hl fun j hj => keeps31_fn c x a b d (gi l j) B Bc M hB hC ha (hin j hj)
  obtain ⟨ud, uc, rfl, _⟩ := hl.get
  refine Fn.of_vc cxOK Tryz.func39 rfl rfl rfl ?_
  repeat (first | refine VIf.tt ?_ | refine VIf.ff ?_)
  refine VRead.mk (.slice ud l.length uc) (cellAt hu 0 rfl) ?_
  repeat (first | refine VIf.tt ?_ | refine VIf.ff ?_)
  refine VFn.p F ?_
  repeat (first | refine VIf.tt ?_ | refine VIf.ff ?_)
  exact VFact.mk ⟨rfl, rfl⟩ trivial
theorem keeps4_fn (c : ChartS) (x : CellS) (a b d u : Value) (l : List Int) (Bl B Bc : Nat) (M : Mem) (hl : IntsV M u l) (hu : M Bl = some (.cells #[u] 27 (0, 0))) (hB : M B = some (.cells (chC c a b d) 26 (0, 0))) (hC : M Bc = some (.cells #[.int .i64 x.lo, .int .i64 x.hi, .int .i64 x.dt, .bool x.vd] 56 (0, 0))) (ha : CelsV M a c.cs) (hin : ∀ j, j < l.length → 0 ≤ gi l j ∧ gi l j < c.cs.length) :
    FnP Tryz.prog 41 [.pointer (some ⟨Bl, 0, none⟩), .pointer (some ⟨B, 0, none⟩), .pointer (some ⟨Bc, 0, none⟩)] M [.bool (!(List.range l.length).any fun j => decide ((gce c.cs (gi l j).toNat).hi > x.hi))] := by
  have F := ContainsI2_fn u l _ _ _ (fun j => decide ((gce c.cs (gi l j).toNat).hi > x.hi)) M hl fun j hj => keeps41_fn c x a b d (gi l j) B Bc M hB hC ha (hin j hj)
  obtain ⟨ud, uc, rfl, _⟩ := hl.get
  refine Fn.of_vc cxOK Tryz.func41 rfl rfl rfl ?_
  repeat (first | refine VIf.tt ?_ | refine VIf.ff ?_)
  refine VRead.mk (.slice ud l.length uc) (cellAt hu 0 rfl) ?_
  repeat (first | refine VIf.tt ?_ | refine VIf.ff ?_)
  refine VFn.p F ?_
  repeat (first | refine VIf.tt ?_ | refine VIf.ff ?_)
  exact VFact.mk ⟨rfl, rfl⟩ trivial
end Go.Proofs.YtegmjmdkhbibjaaGreat
