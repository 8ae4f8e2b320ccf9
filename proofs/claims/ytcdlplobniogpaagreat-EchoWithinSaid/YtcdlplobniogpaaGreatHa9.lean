/- Contracts of package ray: leaves, rays, what lies between two. -/
import Derived.Test.YtcdlplobniogpaaGreatHa8
import Derived.Shelf.Spec.SlicesGrow
set_option linter.unusedVariables false
set_option linter.unusedSimpArgs false
namespace Go.Proofs.YtcdlplobniogpaaGreat
open Go Go.V Go.RowKit
end Go.Proofs.YtcdlplobniogpaaGreat
namespace Go.Proofs.YtcdlplobniogpaaGreat
open Go Go.V Go.RowKit
end Go.Proofs.YtcdlplobniogpaaGreat
namespace Go.Proofs.YtcdlplobniogpaaGreat
open Go Go.V Go.RowKit
end Go.Proofs.YtcdlplobniogpaaGreat
namespace Go.Proofs.YtcdlplobniogpaaGreat
open Go Go.V Go.RowKit
theorem isCb_bd {n : Int} (h : isCb n = true) : -500000 ≤ n ∧ n ≤ 500000 := by simpa [isCb] using h
end Go.Proofs.YtcdlplobniogpaaGreat
namespace Go.Proofs.YtcdlplobniogpaaGreat
open Go Go.V Go.RowKit
end Go.Proofs.YtcdlplobniogpaaGreat
namespace Go.Proofs.YtcdlplobniogpaaGreat
open Go Go.V Go.RowKit
end Go.Proofs.YtcdlplobniogpaaGreat
namespace Go.Proofs.YtcdlplobniogpaaGreat
open Go Go.V Go.RowKit
end Go.Proofs.YtcdlplobniogpaaGreat
namespace Go.Proofs.YtcdlplobniogpaaGreat
open Go Go.V Go.RowKit
end Go.Proofs.YtcdlplobniogpaaGreat
namespace Go.Proofs.YtcdlplobniogpaaGreat
open Go Go.V Go.RowKit
end Go.Proofs.YtcdlplobniogpaaGreat
namespace Go.Proofs.YtcdlplobniogpaaGreat
open Go Go.V Go.RowKit
end Go.Proofs.YtcdlplobniogpaaGreat
namespace Go.Proofs.YtcdlplobniogpaaGreat
open Go Go.V Go.RowKit
end Go.Proofs.YtcdlplobniogpaaGreat
namespace Go.Proofs.YtcdlplobniogpaaGreat
open Go Go.V Go.RowKit
end Go.Proofs.YtcdlplobniogpaaGreat
namespace Go.Proofs.YtcdlplobniogpaaGreat
open Go Go.V Go.RowKit
end Go.Proofs.YtcdlplobniogpaaGreat
namespace Go.Proofs.YtcdlplobniogpaaGreat
open Go Go.V Go.RowKit
end Go.Proofs.YtcdlplobniogpaaGreat
namespace Go.Proofs.YtcdlplobniogpaaGreat
open Go Go.V Go.RowKit
end Go.Proofs.YtcdlplobniogpaaGreat
namespace Go.Proofs.YtcdlplobniogpaaGreat
open Go Go.V Go.RowKit
theorem rdAt {M : Mem} {B : Nat} {cs : Array Value} {t : TypeId} (h : M B = some (.cells cs t (0, 0))) : ∀ (j : Nat) u, cs.toList[j]? = some u → M.cell ((⟨B, 0, none⟩ : Addr).add j) = some u := fun j _ hu => cellAt h j (by simpa using hu)
end Go.Proofs.YtcdlplobniogpaaGreat
namespace Go.Proofs.YtcdlplobniogpaaGreat
open Go Go.V Go.RowKit
end Go.Proofs.YtcdlplobniogpaaGreat
namespace Go.V
open Go Go.RowKit
variable {P : Program}
def FnRow (P : Program) (f : Nat) (args : List Value) (M : Mem) (E sz : Nat) (R : Nat → List Value → Mem → Prop) : Prop :=
 Enters P f ∧ ∀ W, M.ok W → Calls P f args.toArray W fun e W' => ∃ v n xs M', e = .returned v ∧ W'.ownsRow W.heap.size E sz v n xs ∧ (∀ x ∈ xs, x.oneCell' = true) ∧ (∀ b, ob v = some b → M' b = none) ∧
  Below W.heap.size W W' ∧ M.le M' ∧ M'.ok W' ∧ (∀ b, b < W.heap.size → M' b = M b) ∧ R n xs M'
def finRow (C : VX) (fn : Func) (E sz : Nat) (R : Nat → List Value → Mem → Prop) (e : Ex) (st : St) : Prop :=
 match e with
 | .exit _ => VStuck 180
 | _ => match resSV C st fn.results.toList with
  | some [.row id] => match st.own id with
   | some (.row E' sz' n xs) => match Nat.beq E' E && Nat.beq sz' sz with
    | true => st.withM fun M => VFact (R n xs M) True
    | false => VStuck 181
   | _ => VStuck 182
  | _ => VStuck 183
theorem FnRow.of_vc {C : VX} (hC : VXOK P C) {f : Nat} {fn : Func} {c : Code} (hf : P.funcs[f]? = some fn) (hb : fn.body = some c) (hname : (fn.name == "runtime.NumGoroutine") = false)
  {args : List Value} (hnt : Nat.ble args.length fn.ntmps = true) {M : Mem} {E sz : Nat} {R : Nat → List Value → Mem → Prop} (h : vc C P c (st0 args M fn.ntmps none) (finRow C fn E sz R)) : FnRow P f args M E sz R := by
 refine ⟨Go.Proofs.enters_of hf hname hb, fun W hW => ?_⟩
 refine (callsIn_wide (n := 100)).1 (callsIn_of_wp_marks hf hb trivial ?_ rfl)
 have hle := Nat.le_of_ble_eq_true hnt
 have hs0 : Sat W.heap.size W M (fun _ => undef) (st0 args M fn.ntmps none) { tmps := args.toArray ++ Array.replicate (fn.ntmps - args.toArray.size) undef, defers := [] } W := by
  refine ⟨⟨Below.refl _ _, Nat.le_refl _, hW, ?_, ?_, ?_, ?_, fun _ _ => rfl, fun b o hb => by cases hb⟩, by simp [st0]; omega, ?_, trivial⟩
  ·intro id e he; simp [St.own, st0, look] at he
  ·intro i j ei ej hi; simp [St.own, st0, look] at hi
  ·intro i e b hi; simp [St.own, st0, look] at hi
  ·intro b o hb; cases hb
  ·intro d s hd
   obtain ⟨h1, h2, v, h3, rfl⟩ := argSlots_look args 0 d s hd
   refine ⟨by simp [st0]; omega, trivial, ?_⟩
   simp only [Nat.sub_zero] at h3
   rw [Array.getElem?_append_left (by simp; omega)]
   simp only [SV.den, List.getElem?_toArray]
   exact h3
 have := vc_sound (r := none) (n := 100) hC (κ := fun Y B => Y = none ∧ B = ⟨W.heap.size, W, M⟩) (fun l tag args rest B M W hκ => by cases hκ.1) (fx := fun _ => False) (tm := #[]) (B := ⟨W.heap.size, W, M⟩) c h (fun l hl => by cases hl) ⟨rfl, rfl⟩ hs0 (wr_false c) (fun d hd => hd.elim)
 refine wpIn_mono this ?_
 rintro e a' W' ⟨⟨ex, he, B, ρ, st, ⟨_, rfl⟩, h1, h2, h3⟩, _⟩
 have main : (e = .normal ∨ e = .ret) → LeavesInM (Fw none) 100 P fn a'.tmps (fun e W'' => ∃ v n xs M', e = .returned v ∧ W''.ownsRow W.heap.size E sz v n xs ∧ (∀ x ∈ xs, x.oneCell' = true) ∧ (∀ b, ob v = some b → M' b = none) ∧
  Below W.heap.size W W'' ∧ M.le M' ∧ M'.ok W'' ∧ (∀ b, b < W.heap.size → M' b = M b) ∧ R n xs M') a'.defers .returning W' := by
  intro hcase
  have h3' : (match resSV C st fn.results.toList with
   | some [.row id] => match st.own id with
    | some (.row E' sz' n xs) => match Nat.beq E' E && Nat.beq sz' sz with
     | true => st.withM fun M => VFact (R n xs M) True
     | false => VStuck 181
    | _ => VStuck 182
   | _ => VStuck 183) := by
   rcases hcase with rfl | rfl <;> cases he <;> exact h3
  split at h3'
  ·rename_i id hrs
   split at h3'
   ·rename_i E' sz' n xs hid
    split at h3'
    ·rename_i hb2
     simp only [Bool.and_eq_true] at hb2
     have e1 := Nat.eq_of_beq_eq_true hb2.1
     have e2 := Nat.eq_of_beq_eq_true hb2.2
     subst e1 e2
     obtain ⟨hR, _⟩ := withM_iff h3'
     have hsl : ∀ d s, look st.sl d = some s → s.sc st.nx ∧ a'.tmps[d]? = some (s.den ρ) := fun d s hd => ⟨(h1.sl d s hd).2.1, (h1.sl d s hd).2.2⟩
     have hres := fun (G : Gh) (W'' : World) (hS : SatH W.heap.size W M ρ { st with G := G } W'') => results_run (tmps := a'.tmps) (st := { st with G := G }) hC hS hsl fn.results.toList (r := [.row id]) (by rw [resSV_G]; exact hrs)
     refine leaves_of a'.defers h1.h h1.h rfl (fun b => by rw [h2.2]; rfl) h1.marks ?_
     intro G W'' s1 s2
     obtain ⟨k1, k2, k3, k4⟩ := s2.own id _ hid
     have hv : slOf (ρ id) = ρ id := ownsRow_isSl k3
     refine ⟨slOf (ρ id), ?_, slOf (ρ id), n, xs, st.M, rfl, by rw [hv]; exact k3, k4, ?_, s2.below, ?_, s2.mem, s2.mlow, hR⟩
     ·have hr := (hres G W'' s1).1
      exact results_ret fn a'.tmps P [slOf (ρ id)] W'' hr
     ·intro b hb
      rw [hv] at hb
      exact s2.msep id _ b hid hb
     ·intro b o hb
      have hlt := (Array.getElem?_eq_some_iff.1 (hW b o hb)).1
      rw [s2.mlow b hlt]; exact hb
    ·cases h3'
   ·cases h3'
  ·cases h3'
 cases e with
 | normal => exact main (.inl rfl)
 | ret => exact main (.inr rfl)
 | exit i => cases he; cases h3
 | goto => cases he
 | panic => cases he
 | outgrown => cases he
theorem SatH.more {n₀ : Nat} {w : World} {M₀ : Mem} {ρ : Env} {st : St} {W W' : World} (h : SatH n₀ w M₀ ρ st W) {E sz n : Nat} {xs : List Value} {v : Value} {M' : Mem} (hb : Below W.heap.size W W') (hrow : W'.ownsRow W.heap.size E sz v n xs) (h1 : ∀ x ∈ xs, x.oneCell' = true)
  (hnone : ∀ b, ob v = some b → M' b = none) (hM : M'.ok W') (hnew : ∀ b, b < W.heap.size → M' b = st.M b) : SatH n₀ w M₀ (upd ρ st.nx v) { st.add (.row E sz n xs) with M := M' } W' := by
 have hob : ∀ b, ob v = some b → W.heap.size ≤ b := fun b hb' => by
  rcases hrow.2 with ⟨rfl, _⟩ | ⟨g, cap, cur, rfl, hg, _⟩
  ·cases hb'
  ·simp [ob] at hb'; omega
 have hrow' : W'.ownsRow n₀ E sz v n xs := by
  refine ⟨hrow.1, ?_⟩
  rcases hrow.2 with h2 | ⟨g, cap, cur, h2, hg, r⟩
  ·exact .inl h2
  ·exact .inr ⟨g, cap, cur, h2, Nat.le_trans h.size hg, r⟩
 have key := h.add (.row E sz n xs) v hb trivial (by exact ⟨by rw [upd_same]; exact hrow', h1⟩) hob
 have old : ∀ i ei b, st.own i = some ei → ob (ρ i) = some b → b < W.heap.size := fun i ei b hi hb' => ((h.own i ei hi).2.2.lt b hb').2.1
 refine ⟨key.below, key.size, hM, key.own, key.sep, ?_, ?_, ?_, key.fpin⟩
 ·intro i e b hi hbb
  have hi' : (st.add (.row E sz n xs)).own i = some e := hi
  rw [own_add] at hi'
  by_cases e1 : i = st.nx
  ·subst e1
   rw [upd_same] at hbb
   exact hnone b hbb
  ·rw [if_neg e1] at hi'
   rw [agree_upd ρ st.nx v i (h.own i e hi').1] at hbb
   show M' b = none
   rw [hnew b (old i e b hi' hbb)]
   exact h.msep i e b hi' hbb
 ·intro b o hbo
  obtain ⟨k1, k2, k3⟩ := h.pin b o hbo
  have hlt := (Array.getElem?_eq_some_iff.1 k2).1
  refine ⟨k1, (hb.block b hlt).trans k2, ?_⟩
  show M' b = none
  rw [hnew b hlt]; exact k3
 ·intro b hb'
  show M' b = M₀ b
  rw [hnew b (Nat.lt_of_lt_of_le hb' h.size)]
  exact h.mlow b hb'
theorem VCall.ofRow {f : Nat} {vs : List Value} {st : St} {K : SV → St → Prop} {E sz : Nat} {R : Nat → List Value → Mem → Prop} (hF : FnRow P f vs st.M E sz R)
  (hK : ∀ n xs M', st.M.le M' → R n xs M' → K (.row st.nx) ⟨st.sl, (st.nx, some (.row E sz n xs)) :: st.ow, st.nx + 1, M', st.nt, st.G⟩) : VCall P f (vs.map .v) st K := by
 refine ⟨hF.1, fun n₀ w M₀ ρ W hS hsa hss => ?_⟩
 have e : (vs.map SV.v).map (SV.den ρ) = vs := by rw [List.map_map]; exact (List.map_congr_left fun _ _ => rfl).trans (List.map_id vs)
 rw [e]
 refine (hF.2 W hS.mem).mono ?_
 rintro e W' ⟨v, n, xs, M', rfl, k1, k2, k3, k4, k5, k6, k7, k8⟩
 refine ⟨.row st.nx, _, upd ρ st.nx v, ?_, Nat.lt_succ_self _, hS.more k4 k1 k2 k3 k6 k7, ?_, rfl, rfl, hK n xs M' k5 k8⟩
 ·simp only [SV.den, upd_same]
  rw [ownsRow_isSl k1]
 ·intro d s hd
  have hs := hss d s hd
  exact ⟨SV.sc_mono (Nat.le_succ _) hs, s, hd, SV.den_agree (agree_upd ρ st.nx _) hs⟩
theorem VCall.ofRowM {f : Nat} {vs : List Value} {st : St} {K : SV → St → Prop} {E sz : Nat} {R : Nat → List Value → Mem → Prop} {M : Mem} (hF : FnRow P f vs M E sz R) (hM : st.M = M)
  (hK : ∀ n xs M', M.le M' → R n xs M' → K (.row st.nx) ⟨st.sl, (st.nx, some (.row E sz n xs)) :: st.ow, st.nx + 1, M', st.nt, st.G⟩) : VCall P f (vs.map .v) st K := by
 subst hM
 exact VCall.ofRow hF hK
theorem SatH.frzRow {n₀ : Nat} {w : World} {M₀ : Mem} {ρ : Env} {st : St} {W : World} (h : SatH n₀ w M₀ ρ st W) {id E sz n : Nat} {xs : List Value} (hid : st.own id = some (.row E sz n xs)) :
  ∃ M', st.M.le M' ∧ SlAt M' sz (slOf (ρ id)) n xs ∧ SatH n₀ w M₀ ρ { st with ow := (id, none) :: st.ow, M := M' } W := by
 obtain ⟨g1, _, ho, h1⟩ := h.own id _ hid
 rcases ho.2 with ⟨hv, h0⟩ | ⟨g, cap, cur, hg, hge, hh, hnc, hcm, hcs, ht⟩
 ·subst h0
  exact ⟨st.M, Mem.le_refl _, ⟨none, 0, by rw [hv]; rfl, Nat.le_refl _, by simp [maxLen], ho.1, h1, fun h => absurd h (Nat.lt_irrefl _)⟩, h.kill id⟩
 ·have hob : ob (ρ id) = some g := by simp [hg, ob]
  obtain ⟨f1, f2⟩ := h.freeze hid hob hh
  refine ⟨_, f2, ⟨some ⟨g, 0, none⟩, cap, by rw [hg]; rfl, hnc, hcm, ho.1, h1, fun _ => ⟨_, rfl, fun j v hj => ?_⟩⟩, f1⟩
  rw [Addr.add_none]
  have hb : (st.M.with g (.cells cur E (0, 0))) g = some (.cells cur E (0, 0)) := by simp [Mem.with]
  rw [← ht, List.getElem?_take] at hj
  split at hj
  ·simp only [Mem.cell, hb, Option.isSome_none, Bool.false_eq_true, if_false, Nat.zero_add]
   simpa using hj
  ·cases hj
theorem VCall.ofRow1 {f id : Nat} {st : St} {K : SV → St → Prop} {E0 sz0 n0 : Nat} {xs0 : List Value} {E sz : Nat} {R : Nat → List Value → Mem → Prop} (hid : st.own id = some (.row E0 sz0 n0 xs0)) (he : Enters P f)
  (hF : ∀ x M1, st.M.le M1 → SlAt M1 sz0 x n0 xs0 → FnRow P f [x] M1 E sz R)
  (hK : ∀ n xs M', st.M.le M' → R n xs M' → K (.row st.nx) ⟨st.sl, (st.nx, some (.row E sz n xs)) :: (id, none) :: st.ow, st.nx + 1, M', st.nt, st.G⟩) : VCall P f [.row id] st K := by
 refine ⟨he, fun n₀ w M₀ ρ W hS hsa hss => ?_⟩
 obtain ⟨M1, l1, s1, hS1⟩ := hS.frzRow hid
 have hF1 := hF _ M1 l1 s1
 show Calls P f #[slOf (ρ id)] W _
 refine (hF1.2 W hS1.mem).mono ?_
 rintro e W' ⟨v, n, xs, M', rfl, k1, k2, k3, k4, k5, k6, k7, k8⟩
 refine ⟨.row st.nx, _, upd ρ st.nx v, ?_, Nat.lt_succ_self _, hS1.more k4 k1 k2 k3 k6 k7, ?_, rfl, rfl, hK n xs M' (l1.trans k5) k8⟩
 ·simp only [SV.den, upd_same]
  rw [ownsRow_isSl k1]
 ·intro d s hd
  have hs := hss d s hd
  exact ⟨SV.sc_mono (Nat.le_succ _) hs, s, hd, SV.den_agree (agree_upd ρ st.nx _) hs⟩
end Go.V
namespace Go.Proofs.YtcdlplobniogpaaGreat
open Go Go.V Go.RowKit Go.Shelf
def grRen : Ren where
 f := fun
  | 4 => 175
  | n => n
 t := fun
  | 0 => 0
  | 3 => 3
  | 4 => 4
  | 9 => 9
  | 20 => 20
  | 22 => 64
  | 25 => 44
  | n => n
 g := fun n => n
theorem grLay : Lays8.n4 Tryz.prog grRen where
 mixed := rfl
 f4 := ⟨Tryz.f175.name, by kernel_rfl, Tryz.func175.trans (by kernel_rfl)⟩
 t0 := Tryz.underlying0
 a0 := Tryz.isAgg0
 z0 := Tryz.sizeOf0
 v0 := Tryz.zeroValue0
 t3 := Tryz.underlying3
 a3 := Tryz.isAgg3
 z3 := Tryz.sizeOf3
 v3 := Tryz.zeroValue3
 t4 := Tryz.underlying4
 a4 := Tryz.isAgg4
 z4 := Tryz.sizeOf4
 v4 := Tryz.zeroValue4
 t9 := Tryz.underlying9
 a9 := Tryz.isAgg9
 z9 := Tryz.sizeOf9
 v9 := Tryz.zeroValue9
 t20 := Tryz.underlying20
 a20 := Tryz.isAgg20
 z20 := Tryz.sizeOf20
 v20 := Tryz.zeroValue20
 t22 := Tryz.underlying64
 a22 := Tryz.isAgg64
 z22 := Tryz.sizeOf64
 v22 := Tryz.zeroValue64
theorem Grow_call {n : Nat} {st : St} {K : SV → St → Prop} (h1 : 0 < n) (h2 : n ≤ 100000) (hK : K (.row st.nx) (st.add (.row 44 2 0 []))) :
  VCall Tryz.prog 175 [.v (.slice none 0 0), .v (.int .i64 n)] st K := by
 obtain ⟨i0, z, hi0, hs0, hz0, hzc, hb0⟩ := ty44.inf
 have hsz : i0.size = 2 := hs0
 have hby : i0.bytes = 16 := hb0
 refine ⟨enters_of Tryz.func175 (by kernel_rfl) rfl, fun n₀ w M₀ ρ W hS hsa hss => ?_⟩
 have key := Any8.slices_Grow_grow grLay i0 z hi0 hz0 (by rw [hsz]; decide) none 0 0 n [] W (Nat.le_refl _) (by omega) (by rw [hby]; omega) (by omega) (by simp) (fun _ => rfl) (fun a h => by cases h)
 refine key.mono ?_
 rintro e W' ⟨rfl, rfl⟩
 have hG := grownCap_ge W (0 + n) 0 (grRen.t 25)
 have hG2 := grownCap_le_maxLen W (0 + n) 0 (grRen.t 25) (by unfold maxLen; omega)
 generalize grownCap W (0 + n) 0 (grRen.t 25) = cap at *
 refine ⟨.row st.nx, st.add (.row 44 2 0 []), upd ρ st.nx (.slice (some ⟨W.heap.size, 0, none⟩) 0 cap), ?_, ?_, ?_, ?_, rfl, rfl, hK⟩
 ·simp [SV.den, upd_same, slOf]
 ·exact Nat.lt_succ_self _
 ·refine hS.add _ _ (((Below.refl _ W).drew).alloc (Nat.le_refl _) _) trivial ?_ ?_
  ·refine ⟨⟨rfl, .inr ⟨W.heap.size, cap, #[] ++ Builtin.zeroCells z.cells (0 + n - 0) ++ Builtin.zeroCells z.cells (cap - (0 + n)), upd_same _ _ _, hS.size, heap_alloc_new _ _, Nat.zero_le _, hG2, ?_, by simp⟩⟩, by simp⟩
   have hz2 : z.cells.size = 2 := by rw [hzc]; rfl
   simp only [Array.size_append, Array.size_empty, size_zeroCells, hz2]
   omega
  ·intro b hb
   simp [ob] at hb
   omega
 ·intro d s hd
  have hs := hss d s hd
  exact ⟨SV.sc_mono (Nat.le_succ _) hs, s, hd, SV.den_agree (agree_upd ρ st.nx _) hs⟩
theorem take_gd {α : Type} (d : α) (l : List α) {i : Nat} (h : i < l.length) : l.take (i + 1) = l.take i ++ [l.getD i d] := by
 rw [List.take_add_one]
 simp only [List.getD_eq_getElem?_getD, List.getElem?_eq_getElem h, Option.getD_some, Option.toList_some]
def sumL (ls : List (List Pt)) : Nat := (ls.map List.length).sum
theorem sumL_take {ls : List (List Pt)} {i : Nat} (h : i < ls.length) : sumL (ls.take (i + 1)) = sumL (ls.take i) + (gr ls i).length := by
 unfold sumL gr
 rw [take_gd [] ls h, List.map_append, List.sum_append]; rfl
theorem sumL_flat (ls : List (List Pt)) : sumL ls = ls.flatten.length := by unfold sumL; rw [List.length_flatten]
theorem flat_take {ls : List (List Pt)} {i : Nat} (h : i < ls.length) : (ls.take (i + 1)).flatten = (ls.take i).flatten ++ gr ls i := by
 unfold gr
 rw [take_gd [] ls h, List.flatten_append]; simp
theorem sumL_le (ls : List (List Pt)) (i : Nat) : sumL (ls.take i) ≤ sumL ls := by
 rw [sumL_flat, sumL_flat]
 have := congrArg List.length (congrArg List.flatten (List.take_append_drop i ls))
 rw [List.flatten_append, List.length_append] at this
 omega
set_option maxRecDepth 20000 in
set_option maxHeartbeats 2000000 in
theorem Concat_fn (v : Value) (ls : List (List Pt)) (M : Mem) (hv : RegV M v ls) (h0 : 0 < ls.flatten.length) (h1 : ls.flatten.length ≤ 100000) :
  FnRow Tryz.prog 143 [v] M 44 2 fun n xs M' => n = ls.flatten.length ∧ xs = cellsP ls.flatten ∧ M' = M := by
 obtain ⟨ad, c, rfl, hm, hrd⟩ := hv.get
 have hs := sumL_flat ls
 refine FnRow.of_vc cxIOK Tryz.func143 rfl rfl rfl ?_
 refine VCode.loop cxIOK (Nat × Int) (fun s => ⟨[(0, .v (.slice ad ls.length c)), (3, .v (.int .i64 s.2)), (9, .v (.slice ad ls.length c)), (10, .v (.int .i64 ls.length)), (11, .v (.int .i64 s.1))], [], 0, M, 36, ⟨fun _ => none, none, fun _ => none⟩⟩)
  (fun s => s.1 ≤ ls.length ∧ s.2 = (sumL (ls.take s.1) : Nat)) (fun s => ls.length - s.1) (0, 0) ⟨Nat.zero_le _, rfl⟩ (Wk.mk' id (by repeat' constructor) (by repeat' constructor) (injOK_id _) rfl rfl rfl) ?_
 rintro ⟨i, z⟩ ⟨hi, hz⟩ m
 simp only at hi hz
 refine VIf.mk (fun hlt => ?_) (fun hge => ?_)
 ·have hlt : i < ls.length := lt_of_dec hlt
  obtain ⟨ad', w, ead, hw, hw64, hc⟩ := hrd M (Mem.le_refl _) i hlt
  obtain ⟨wd, wc, rfl⟩ := hw.shape
  have hle := sumL_le ls (i + 1)
  have hst : sumL (ls.take (i + 1)) = sumL (ls.take i) + (ls.getD i []).length := sumL_take hlt
  refine VIdx.mk ad' i ead rfl hlt ?_
  refine VRead.mk _ hc ?_
  refine VArith.ok (by simp only; omega) (by simp only; omega) ?_
  refine VIf.mk (fun h => ?_) (fun _ => ?_)
  ·have h := of_decide_eq_true h
   exfalso
   simp only at h
   omega
  refine VArith.ok (by first | omega | (simp only; omega)) (by first | omega | (simp only; omega)) ?_
  exact ⟨(i + 1, z + ((ls.getD i []).length : Nat)), ⟨hlt, by simp only; omega⟩, (by first | omega | (simp only; omega)), (Wk.mk' id (by repeat' constructor) (by repeat' constructor) (injOK_id _) rfl rfl rfl)⟩
 have : i = ls.length := by have := ge_of_dec hge; simp only at this; omega
 subst this
 rw [List.take_length] at hz
 subst hz
 refine VOwn.own (Grow_call (by omega) (by omega) ?_)
 refine VCode.loop cxIOK Nat (fun i => ⟨[(0, .v (.slice ad ls.length c)), (6, .row 0), (25, .v (.slice ad ls.length c)), (26, .v (.int .i64 ls.length)), (27, .v (.int .i64 i))], [(0, some (.row 44 2 (ls.take i).flatten.length (cellsP (ls.take i).flatten)))], 1, M, 36, ⟨fun _ => none, none, fun _ => none⟩⟩)
  (fun i => i ≤ ls.length) (fun i => ls.length - i) 0 (Nat.zero_le _) (Wk.mk' id (by repeat' constructor) (by repeat' constructor) (injOK_id _) rfl rfl rfl) ?_
 intro i hi m
 refine VIf.mk (fun hlt => ?_) (fun hge => ?_)
 ·have hlt : i < ls.length := lt_of_dec hlt
  obtain ⟨ad', w, ead, hw, hw64, hc⟩ := hrd M (Mem.le_refl _) i hlt
  obtain ⟨wd, wc, rfl⟩ := hw.shape
  have hle := sumL_le ls (i + 1)
  have hst : sumL (ls.take (i + 1)) = sumL (ls.take i) + (ls.getD i []).length := sumL_take hlt
  rw [sumL_flat (ls.take i)] at hst
  refine VIdx.mk ad' i ead rfl hlt ?_
  refine VRead.mk _ hc ?_
  refine VSl.mk (ls.getD i []).length (cellsP (ls.getD i [])) hw ?_
  refine VFact.mk (by first | omega | (simp only; omega)) ?_
  refine VArith.ok (by first | omega | (simp only; omega)) (by first | omega | (simp only; omega)) ?_
  refine ⟨i + 1, hlt, (by first | omega | (simp only; omega)), Wk.mk' (fun k => if k = 0 then 1 else k) (by repeat' constructor) ⟨⟨rfl, ⟨rfl, rfl, ?_, ?_⟩⟩, trivial⟩ (by simp [injOK]) rfl rfl rfl⟩
  ·rw [flat_take hlt, List.length_append]; rfl
  ·rw [flat_take hlt, show ls.getD i [] = gr ls i from rfl]; simp [cellsP]
 ·have : i = ls.length := by have := ge_of_dec hge; omega
  subst this
  have e : ls.take ls.length = ls := List.take_length
  exact VFact.mk ⟨by rw [e], by rw [e], rfl⟩ trivial
end Go.Proofs.YtcdlplobniogpaaGreat
namespace Go.Proofs.YtcdlplobniogpaaGreat
open Go Go.V Go.RowKit
theorem hullB_cases {l : List Pt} (hne : l ≠ []) (hP : ∀ x ∈ l, placeB x = true) : (l.length ≤ 4000 ∧ (aroundP l).length ≤ 64 ∧ hullB l = (aroundP l, 0) ∧ arC l = aroundP l) ∨ (64 < l.length ∧ hullB l = ([], 2) ∧ arC l = octL l) := by
 by_cases h1 : l.length ≤ 4000
 ·have := hullB_mid hP hne h1
  by_cases h2 : (aroundP l).length ≤ 64
  ·rw [if_pos h2] at this
   exact .inl ⟨h1, h2, this, by unfold arC; rw [if_neg hne, if_pos ⟨h1, h2⟩]⟩
  ·rw [if_neg h2] at this
   have hl := hl_len (around_hl hne)
   exact .inr ⟨by omega, this, by unfold arC; rw [if_neg hne, if_neg (fun h => h2 h.2)]⟩
 ·refine .inr ⟨by omega, ?_, by unfold arC; rw [if_neg hne, if_neg (fun h => h1 h.1)]⟩
  unfold hullB; rw [if_pos (by omega)]
theorem cellsP_drop' : ∀ (k : Nat) (ps : List Pt), (cellsP ps).drop (k * 2) = cellsP (ps.drop k)
 | 0, _ => rfl
 | _ + 1, [] => by simp [cellsP]
 | k + 1, p :: ps => by
  have := cellsP_drop' k ps
  rw [show (k + 1) * 2 = k * 2 + 1 + 1 by omega]
  exact this
theorem pts_take {M : Mem} {ad : Option Addr} {c : Nat} {ps : List Pt} (h : Pts M (.slice ad ps.length c) ps) {k : Nat} (hk : k ≤ ps.length) {c' : Nat} (h1 : k ≤ c') (h2 : c' ≤ c) : Pts M (.slice ad k c') (ps.take k) := by
 obtain ⟨a, c0, e, g1, g2, g3, g4, g5⟩ := h
 cases e
 have hl : (ps.take k).length = k := by rw [List.length_take]; omega
 refine ⟨ad, c', by rw [hl], by rw [hl]; exact h1, by omega, ?_, fun v hv => ?_, fun hn => ?_⟩
 ·rw [← cellsP_take, List.length_take, g3, hl]; omega
 ·rw [← cellsP_take] at hv; exact g4 v (List.mem_of_mem_take hv)
 ·obtain ⟨a, ha, hr⟩ := g5 (by omega)
  refine ⟨a, ha, fun j v hj => hr j v ?_⟩
  rw [← cellsP_take, List.getElem?_take] at hj
  split at hj
  ·exact hj
  ·cases hj
theorem pts_drop {M : Mem} {a : Addr} {c : Nat} {ps : List Pt} (h : Pts M (.slice (some a) ps.length c) ps) {k : Nat} (hk : k ≤ ps.length) {c' : Nat} (h1 : ps.length - k ≤ c') (h2 : c' ≤ c) : Pts M (.slice (some (a.add (k * 2))) (ps.length - k) c') (ps.drop k) := by
 obtain ⟨a', c0, e, g1, g2, g3, g4, g5⟩ := h
 cases e
 have hl : (ps.drop k).length = ps.length - k := List.length_drop
 refine ⟨some (a.add (k * 2)), c', by rw [hl], by rw [hl]; exact h1, by omega, ?_, fun v hv => ?_, fun hn => ⟨_, rfl, fun j v hj => ?_⟩⟩
 ·rw [← cellsP_drop', List.length_drop, g3, hl]; omega
 ·rw [← cellsP_drop'] at hv; exact g4 v (List.mem_of_mem_drop hv)
 ·obtain ⟨b, hb, hr⟩ := g5 (by omega)
  cases hb
  rw [← cellsP_drop', List.getElem?_drop] at hj
  rw [Addr.add_add]
  exact hr _ _ hj
theorem Clone_row (v : Value) (ps : List Pt) (M : Mem) (hv : Pts M v ps) (hn : 1 ≤ ps.length) (hn' : ps.length ≤ 100000) : FnRow Tryz.prog 67 [v] M 44 2 fun n xs _ => n = ps.length ∧ xs = cellsP ps := by
 obtain ⟨ad, c, rfl⟩ := hv.shape
 obtain ⟨_, hm, hrd⟩ := hv.cellsOf
 obtain ⟨ad', rfl, _⟩ := hrd M (Mem.le_refl _) 0 (by omega)
 refine FnRow.of_vc cxIOK Tryz.func67 rfl rfl rfl ?_
 repeat (first | refine VIf.tt ?_ | refine VIf.ff ?_)
 refine VSl.mk ps.length (cellsP ps) hv ?_
 refine VFact.mk (by simp only; omega) ?_
 refine VFact.mk ⟨?_, ?_⟩ trivial
 ·exact Nat.zero_add _
 ·exact List.nil_append _
set_option maxRecDepth 20000 in
set_option maxHeartbeats 2000000 in
theorem aroundN_fn : ∀ (N : Nat) (l : List Pt), l.length ≤ N → ∀ (v : Value) (M : Mem), Pts M v l → (∀ x ∈ l, placeB x = true) →
  V.Fn Tryz.prog 99 [v] M fun rs M' => ∃ u, rs = [u, .bool (decide (0 < l.length))] ∧ Pts M' u (arC l) := by
 intro N
 induction N with
 | zero =>
  intro l hN v M hv hP
  obtain ⟨ad, c, rfl⟩ := hv.shape
  have hl : l = [] := List.length_eq_zero_iff.1 (by omega)
  subst hl
  refine Fn.of_vc cxIOK Tryz.func99 rfl rfl rfl ?_
  repeat (first | refine VIf.tt ?_ | refine VIf.ff ?_)
  exact VFact.mk ⟨_, rfl, Pts.nil M⟩ trivial
 | succ N ih =>
  intro l hN v M hv hP
  obtain ⟨ad, c, rfl⟩ := hv.shape
  by_cases hl : l = []
  ·subst hl
   refine Fn.of_vc cxIOK Tryz.func99 rfl rfl rfl ?_
   repeat (first | refine VIf.tt ?_ | refine VIf.ff ?_)
   exact VFact.mk ⟨_, rfl, Pts.nil M⟩ trivial
  have hpos := ne_len hl
  refine Fn.of_vc cxIOK Tryz.func99 rfl rfl rfl ?_
  refine VIf.mk (fun h => ?_) (fun _ => ?_)
  ·have := beq_iff_eq.1 h; omega
  rcases hullB_cases hl hP with ⟨h1, h2, h3, h4⟩ | ⟨h1, h3, h4⟩
  ·refine VOwn.frz ?_
   refine VFn.mk _ (Hull_is hv (mem_64 hP) h3) ?_
   rintro rs M1 hM1 ⟨u, rfl, hu⟩
   repeat (first | refine VIf.tt ?_ | refine VIf.ff ?_)
   refine VFact.mk ⟨u, ?_, by rw [h4]; exact hu⟩ trivial
   rw [decide_eq_true (by omega)]
  ·obtain ⟨ad, rfl⟩ := SlAt.some hv (by omega)
   have hcap : l.length ≤ c := by obtain ⟨_, _, e, h, _⟩ := hv; cases e; exact h
   refine VOwn.frz ?_
   refine VFn.mk _ (Hull_is hv (mem_64 hP) h3) ?_
   rintro rs M1 hM1 ⟨u, rfl, _⟩
   have hH : (l.length : Int).tdiv 2 = ((l.length / 2 : Nat) : Int) := by rw [Int.tdiv_eq_ediv_of_nonneg (by omega)]; omega
   repeat (first | refine VIf.tt ?_ | refine VIf.ff ?_)
   refine VDiv.mk (by decide) ?_
   refine VArith.ok (by rw [hH]; omega) (by rw [hH]; have := hv.cellsOf.2.1; unfold maxLen at this; omega) ?_
   obtain ⟨H, hH2⟩ : ∃ H, l.length / 2 = H := ⟨_, rfl⟩
   rw [hH2] at hH
   have lt : (l.take H).length = H := by rw [List.length_take]; omega
   have ld : (l.drop H).length = l.length - H := List.length_drop
   have nA : l.take H ≠ [] := fun e => by rw [e] at lt; simp at lt; omega
   have nB : l.drop H ≠ [] := fun e => by rw [e] at ld; simp at ld; omega
   obtain ⟨vA, vB, vP, eP, nP, pP, lP⟩ := arC_parts nA nB (List.take_append_drop H l).symm hP
   refine VBnd.mk H hH (by omega) ?_
   have pA : ∀ x ∈ l.take H, placeB x = true := fun x hx => hP x (List.mem_of_mem_take hx)
   have pB : ∀ x ∈ l.drop H, placeB x = true := fun x hx => hP x (List.mem_of_mem_drop hx)
   refine VOwn.frz ?_
   refine VFn.mk _ (ih (l.take H) (by omega) _ M1 (pts_take (hv.le hM1) (by omega) (by omega) (Nat.le_refl c)) pA) ?_
   rintro rs M2 hM2 ⟨a, rfl, ha⟩
   refine VBnd.mk H hH (by omega) ?_
   refine VOwn.frz ?_
   have D : Pts M2 (.slice (if c = H then some ad else (some ad).map fun x => x.add (H * 2)) (l.length - H) (c - H)) (l.drop H) := by
    rw [if_neg (by omega)]
    exact pts_drop (hv.le (hM1.trans hM2)) (by omega) (by omega) (by omega)
   refine VFn.mk _ (ih (l.drop H) (by omega) _ M2 D pB) ?_
   rintro rs M3 hM3 ⟨b, rfl, hb⟩
   refine VOwn.frz ?_
   refine VFn.mk _ (Eight_is (ha.le hM3) (mem_64 (valid_mem vA)) vA rfl) ?_
   rintro rs M4 hM4 ⟨a8, rfl, ha8⟩
   refine VOwn.frz ?_
   refine VFn.mk _ (Eight_is (hb.le hM4) (mem_64 (valid_mem vB)) vB rfl) ?_
   rintro rs M5 hM5 ⟨b8', rfl, hb8⟩
   obtain ⟨ad2, c2, rfl⟩ := ha8.shape
   obtain ⟨bd2, bc2, rfl⟩ := hb8.shape
   have la := (eight_spec vA).2.2.1
   have lb := (eight_spec vB).2.2.1
   have na := (len_one (eight_spec vA).2.1).1
   refine VOwn.own ?_
   refine VCall.ofRowM (Clone_row _ _ M5 (ha8.le hM5) na (by omega)) rfl ?_
   rintro m1 xs1 M6 hM6 ⟨rfl, rfl⟩
   refine VSl.mk _ _ (hb8.le hM6) ?_
   refine VFact.mk (by show ((eightP (arC (List.take H l))).length + (eightP (arC (List.drop H l))).length) * 16 ≤ _; omega) ?_
   refine VOwn.frz ?_
   refine VFz.mk fun xs Bx M7 hM7 hxs => ?_
   have hxs : Pts M7 xs (eightP (arC (List.take H l)) ++ eightP (arC (List.drop H l))) := by
    have e1 : cellsP (eightP (arC (List.take H l)) ++ eightP (arC (List.drop H l))) = cellsP (eightP (arC (List.take H l))) ++ cellsP (eightP (arC (List.drop H l))) := by simp [cellsP]
    unfold Pts
    rw [e1, List.length_append]
    exact hxs
   refine VFn.mk _ (ih _ (by omega) xs M7 hxs pP) ?_
   rintro rs M8 hM8 ⟨p8, rfl, hp8⟩
   refine VOwn.frz ?_
   refine VFn.mk _ (Eight_is hp8 (mem_64 (valid_mem vP)) vP eP) ?_
   rintro rs M9 hM9 ⟨o, rfl, ho⟩
   refine VFact.mk ⟨o, ?_, by rw [h4]; exact ho⟩ trivial
   rw [decide_eq_true (by omega)]
theorem aroundC_fn (v : Value) (l : List Pt) (M : Mem) (hv : Pts M v l) (hP : ∀ x ∈ l, placeB x = true) : V.Fn Tryz.prog 99 [v] M fun rs M' => ∃ u, rs = [u, .bool (decide (0 < l.length))] ∧ Pts M' u (arC l) := aroundN_fn l.length l (Nat.le_refl _) v M hv hP
end Go.Proofs.YtcdlplobniogpaaGreat
namespace Go.Proofs.YtcdlplobniogpaaGreat
open Go Go.V Go.RowKit
def PlsV (M : Mem) (xs : List Value) (qs : List (List Pt)) : Prop := xs.length = qs.length ∧ ∀ (i : Nat) (x : Value) (q : List Pt), xs[i]? = some x → qs[i]? = some q → Pts M x q ∧ i64P q
theorem PlsV.le {M M' : Mem} {xs : List Value} {qs : List (List Pt)} (h : PlsV M xs qs) (hM : M.le M') : PlsV M' xs qs := ⟨h.1, fun i x q h1 h2 => ⟨(h.2 i x q h1 h2).1.le hM, (h.2 i x q h1 h2).2⟩⟩
theorem PlsV.nil (M : Mem) : PlsV M [] [] := ⟨rfl, fun i x q h => by simp at h⟩
theorem PlsV.snoc {M : Mem} {xs : List Value} {qs : List (List Pt)} {x : Value} {q : List Pt} (h : PlsV M xs qs) (hx : Pts M x q) (h64 : i64P q) : PlsV M (xs ++ [x]) (qs ++ [q]) := by
 refine ⟨by simp [h.1], fun i y p h1 h2 => ?_⟩
 rcases Nat.lt_or_ge i xs.length with hi | hi
 ·rw [List.getElem?_append_left hi] at h1
  rw [List.getElem?_append_left (by rw [← h.1]; exact hi)] at h2
  exact h.2 i y p h1 h2
 ·rw [List.getElem?_append_right hi] at h1
  rw [List.getElem?_append_right (by rw [← h.1]; exact hi), ← h.1] at h2
  rcases e : i - xs.length with _ | k
  ·rw [e] at h1 h2; simp at h1 h2; subst h1; subst h2; exact ⟨hx, h64⟩
  ·rw [e] at h1; simp at h1
theorem PlsV.take {M : Mem} {xs : List Value} {qs : List (List Pt)} (h : PlsV M xs qs) (k : Nat) : PlsV M (xs.take k) (qs.take k) := by
 refine ⟨by simp [h.1], fun i x q h1 h2 => ?_⟩
 rw [List.getElem?_take] at h1 h2
 split at h1
 ·rename_i hi
  rw [if_pos hi] at h2
  exact h.2 i x q h1 h2
 ·cases h1
theorem PlsV.get {M : Mem} {xs : List Value} {qs : List (List Pt)} (h : PlsV M xs qs) {i : Nat} (hi : i < qs.length) : ∃ x, xs[i]? = some x ∧ Pts M x (gr qs i) ∧ i64P (gr qs i) := by
 have hx : i < xs.length := by rw [h.1]; exact hi
 refine ⟨xs[i], List.getElem?_eq_getElem hx, h.2 i _ _ (List.getElem?_eq_getElem hx) ?_⟩
 unfold gr; simp [hi]
theorem flat_one (xs : List Value) : (xs.map fun x => [x]).flatten = xs := by
 induction xs with
 | nil => rfl
 | cons x xs ih => rw [List.map_cons, List.flatten_cons, ih]; rfl
theorem RegV.of {M : Mem} {v : Value} {xs : List Value} {qs : List (List Pt)} (h : SlAt M 1 v qs.length xs) (hp : PlsV M xs qs) : RegV M v qs := by
 refine ⟨xs.map fun x => [x], by simp [hp.1], fun r hr => ?_, by rw [flat_one]; exact h, fun i q r h1 h2 => ?_⟩
 ·obtain ⟨x, _, rfl⟩ := List.mem_map.1 hr; rfl
 ·rw [List.getElem?_map] at h2
  cases hx : xs[i]? with
  | none => rw [hx] at h2; cases h2
  | some x =>
   rw [hx] at h2
   cases h2
   exact ⟨x, rfl, hp.2 i x q hx h1⟩
theorem RegV.of' {M : Mem} {v : Value} {xs : List Value} {n : Nat} {qs : List (List Pt)} (h : SlAt M 1 v n xs) (hn : n = qs.length) (hp : PlsV M xs qs) : RegV M v qs := RegV.of (by rw [← hn]; exact h) hp
theorem RegV.pls {M : Mem} {v : Value} {qs : List (List Pt)} (h : RegV M v qs) : ∃ xs, SlAt M 1 v qs.length xs ∧ PlsV M xs qs := by
 obtain ⟨rows, h1, h2, h3, h4⟩ := h
 have e : rows.flatten.length = qs.length := by obtain ⟨a, c, _, _, _, hl, _⟩ := h3; simpa using hl
 refine ⟨rows.flatten, h3, e, fun i x q hx hq => ?_⟩
 have hi : i < rows.length := by rw [h1]; exact (List.getElem?_eq_some_iff.1 hq).1
 obtain ⟨w, hw, hp, h64⟩ := h4 i q _ hq (List.getElem?_eq_getElem hi)
 have := flat_get rows i _ h2 (List.getElem?_eq_getElem hi) 0 w (by rw [hw]; rfl)
 rw [Nat.mul_one, Nat.add_zero, hx] at this
 cases this
 exact ⟨hp, h64⟩
theorem SlAt.take {M : Mem} {sz n k m : Nat} {a : Option Addr} {c : Nat} {xs : List Value} (h : SlAt M sz (.slice a n c) n xs) (hk : k ≤ n) (hkm : k ≤ m) (hm : m ≤ c) : SlAt M sz (.slice a k m) k (xs.take (k * sz)) := by
 obtain ⟨a', c', e, h1, h2, h3, h4, h5⟩ := h
 cases e
 refine ⟨a, m, rfl, hkm, by omega, ?_, fun v hv => h4 v (List.mem_of_mem_take hv), fun hp => ?_⟩
 ·rw [List.length_take, h3]
  exact Nat.min_eq_left (Nat.mul_le_mul_right _ hk)
 ·obtain ⟨ad, e, h6⟩ := h5 (by omega)
  refine ⟨ad, e, fun j v hj => h6 j v ?_⟩
  rw [List.getElem?_take] at hj
  split at hj
  ·exact hj
  ·cases hj
theorem FnRow.fn {P : Program} {f : Nat} {args : List Value} {M : Mem} {E sz : Nat} {R : Nat → List Value → Mem → Prop} (h : FnRow P f args M E sz R) : V.Fn P f args M fun rs M' => ∃ u n xs M1, rs = [u] ∧ M1.le M' ∧ SlAt M' sz u n xs ∧ R n xs M1 := by
 refine ⟨h.1, fun W hW => (h.2 W hW).mono ?_⟩
 rintro e W' ⟨v, n, xs, M1, rfl, ho, h1, hb, hB, hl, hok, hlow, hR⟩
 rcases ho.2 with ⟨rfl, h0⟩ | ⟨g, cap, cur, rfl, hg, hh, hn, hc, hs, ht⟩
 ·exact ⟨[.slice none 0 0], M1, rfl, hB, hl, hok, hlow, _, n, xs, M1, rfl, Mem.le_refl _, ⟨none, 0, by rw [h0], by omega, by unfold maxLen; omega, ho.1, h1, fun h => by omega⟩, hR⟩
 ·have hgn : M1 g = none := hb g rfl
  have hle : M1.le (M1.with g (.cells cur E (0, 0))) := fun b o hb' => by
   unfold Mem.with
   split
   ·rename_i e; subst e; rw [hgn] at hb'; cases hb'
   ·exact hb'
  refine ⟨[.slice (some ⟨g, 0, none⟩) n cap], M1.with g (.cells cur E (0, 0)), rfl, hB, hl.trans hle, ?_, ?_, _, n, xs, M1, rfl, hle, ⟨some ⟨g, 0, none⟩, cap, rfl, hn, hc, ho.1, h1, fun _ => ⟨_, rfl, fun j v hj => ?_⟩⟩, hR⟩
  ·intro b o hb'
   unfold Mem.with at hb'
   split at hb'
   ·rename_i e; subst e; cases hb'; exact hh
   ·exact hok b o hb'
  ·intro b hb'
   unfold Mem.with
   rw [if_neg (by omega)]
   exact hlow b hb'
  ·rw [Addr.add_none]
   rw [← ht, List.getElem?_take] at hj
   split at hj
   ·simp only [Mem.cell, Mem.with, if_true, Option.isSome_none, Bool.false_eq_true, if_false, Nat.zero_add]
    simpa using hj
   ·cases hj
theorem oct_b8 {l : List Pt} (hne : l ≠ []) (hP : ∀ x ∈ l, placeB x = true) : b8 (octL l) = b8 l := by
 obtain ⟨h1, h2, _, h4, h5⟩ := oct_spec hne hP
 exact b8_ext (len_one h2).1 (ne_len hne) (fun x hx => h4.pts_has x (h1.sub x hx)) fun x hx => has_b8 h2 (h5 x (b8_has (ne_len hne) x hx))
theorem oct_two {A B : List Pt} (hA : A ≠ []) (hB : B ≠ []) (hP : ∀ x ∈ A ++ B, placeB x = true) : octL (octL A ++ octL B) = octL (A ++ B) := by
 have pA : ∀ x ∈ A, placeB x = true := fun x hx => hP x (List.mem_append.2 (.inl hx))
 have pB : ∀ x ∈ B, placeB x = true := fun x hx => hP x (List.mem_append.2 (.inr hx))
 have vA := (oct_spec hA pA).2.1
 have vB := (oct_spec hB pB).2.1
 have nA : octL A ≠ [] := fun e => by have := (len_one vA).1; rw [e] at this; simp at this
 have nB : octL B ≠ [] := fun e => by have := (len_one vB).1; rw [e] at this; simp at this
 have n1 : octL A ++ octL B ≠ [] := fun e => nA (List.append_eq_nil_iff.1 e).1
 have n2 : A ++ B ≠ [] := fun e => hA (List.append_eq_nil_iff.1 e).1
 have e : b8 (octL A ++ octL B) = b8 (A ++ B) := by
  refine b8_ext (ne_len n1) (ne_len n2) (fun x hx => ?_) fun x hx => ?_
  ·rcases List.mem_append.1 hx with hx | hx
   ·refine b8_mono (ne_len hA) (ne_len n2) (fun z hz => b8_has (ne_len n2) z (List.mem_append.2 (.inl hz))) ?_
    rw [← oct_b8 hA pA]; exact b8_has (ne_len nA) x hx
   ·refine b8_mono (ne_len hB) (ne_len n2) (fun z hz => b8_has (ne_len n2) z (List.mem_append.2 (.inr hz))) ?_
    rw [← oct_b8 hB pB]; exact b8_has (ne_len nB) x hx
  ·rcases List.mem_append.1 hx with hx | hx
   ·refine b8_mono (ne_len nA) (ne_len n1) (fun z hz => b8_has (ne_len n1) z (List.mem_append.2 (.inl hz))) ?_
    rw [oct_b8 hA pA]; exact b8_has (ne_len hA) x hx
   ·refine b8_mono (ne_len nB) (ne_len n1) (fun z hz => b8_has (ne_len n1) z (List.mem_append.2 (.inr hz))) ?_
    rw [oct_b8 hB pB]; exact b8_has (ne_len hB) x hx
 unfold octL at e ⊢
 rw [e]
theorem reg_two {M : Mem} {x u v : Value} {ps qs : List Pt} (h : SlAt M 1 x 2 [u, v]) (hu : Pts M u ps) (hv : Pts M v qs) (iu : i64P ps) (iv : i64P qs) : RegV M x [ps, qs] :=
 RegV.of h ((PlsV.nil M).snoc hu iu |>.snoc hv iv)
theorem ConcatF {x u v : Value} {ps qs : List Pt} {M : Mem} (h : SlAt M 1 x 2 [u, v]) (hu : Pts M u ps) (hv : Pts M v qs) (pu : ∀ y ∈ ps, placeB y = true) (pv : ∀ y ∈ qs, placeB y = true) (h0 : 0 < ps.length) (h1 : ps.length + qs.length ≤ 100000) :
  V.Fn Tryz.prog 143 [x] M fun rs M' => ∃ u, rs = [u] ∧ Pts M' u (ps ++ qs) := by
 have e : [ps, qs].flatten = ps ++ qs := by simp
 have h2 : (ps ++ qs).length = ps.length + qs.length := List.length_append
 refine (FnRow.fn (Concat_fn x [ps, qs] M (reg_two h hu hv (mem_64 pu) (mem_64 pv)) (by rw [e]; omega) (by rw [e]; omega))).mono fun rs M' _ ⟨u, n, xs, M1, e1, _, e2, e3, e4, _⟩ => ?_
 rw [e] at e3 e4
 subst e3; subst e4
 exact ⟨u, e1, e2⟩
set_option maxRecDepth 20000 in
set_option maxHeartbeats 4000000 in
theorem octagonN_fn : ∀ (N : Nat) (l : List Pt), l.length ≤ N → l ≠ [] → ∀ (v : Value) (M : Mem), Pts M v l → (∀ x ∈ l, placeB x = true) →
  V.Fn Tryz.prog 136 [v] M fun rs M' => ∃ u, rs = [u] ∧ Pts M' u (octL l) := by
 intro N
 induction N with
 | zero => intro l hN hl; exact absurd (List.length_eq_zero_iff.1 (by omega)) hl
 | succ N ih =>
  intro l hN hl v M hv hP
  obtain ⟨ad, c, rfl⟩ := hv.shape
  have hpos := ne_len hl
  refine Fn.of_vc cxOK Tryz.func136 rfl rfl rfl ?_
  rcases hullB_cases hl hP with ⟨h1, h2, h3, _⟩ | ⟨h1, h3, _⟩
  ·refine VFn.mk _ (Hull_is hv (mem_64 hP) h3) ?_
   rintro rs M1 hM1 ⟨u, rfl, hu⟩
   have hV := valid_small hP hl h2
   repeat (first | refine VIf.tt ?_ | refine VIf.ff ?_)
   refine VFn.mk _ (Eight_is hu (mem_64 (valid_mem hV)) hV rfl) ?_
   rintro rs M2 hM2 ⟨w, rfl, hw⟩
   have e : eightP (aroundP l) = octL l := by
    show aroundP (b8 (aroundP l)).ptsP = _
    rw [b8_all hl]; rfl
   exact VFact.mk ⟨w, rfl, by rw [← e]; exact hw⟩ trivial
  ·obtain ⟨ad, rfl⟩ := SlAt.some hv (by omega)
   have hcap : l.length ≤ c := by obtain ⟨_, _, e, h, _⟩ := hv; cases e; exact h
   refine VFn.mk _ (Hull_is hv (mem_64 hP) h3) ?_
   rintro rs M1 hM1 ⟨u, rfl, _⟩
   have hH : (l.length : Int).tdiv 2 = ((l.length / 2 : Nat) : Int) := by rw [Int.tdiv_eq_ediv_of_nonneg (by omega)]; omega
   repeat (first | refine VIf.tt ?_ | refine VIf.ff ?_)
   refine VDiv.mk (by decide) ?_
   refine VArith.ok (by rw [hH]; omega) (by rw [hH]; have := hv.cellsOf.2.1; unfold maxLen at this; omega) ?_
   obtain ⟨H, hH2⟩ : ∃ H, l.length / 2 = H := ⟨_, rfl⟩
   rw [hH2] at hH
   have lt : (l.take H).length = H := by rw [List.length_take]; omega
   have ld : (l.drop H).length = l.length - H := List.length_drop
   have nA : l.take H ≠ [] := fun e => by rw [e] at lt; simp at lt; omega
   have nB : l.drop H ≠ [] := fun e => by rw [e] at ld; simp at ld; omega
   have pA : ∀ x ∈ l.take H, placeB x = true := fun x hx => hP x (List.mem_of_mem_take hx)
   have pB : ∀ x ∈ l.drop H, placeB x = true := fun x hx => hP x (List.mem_of_mem_drop hx)
   have FA := fun M' (hM : M1.le M') => ih (l.take H) (by omega) nA _ M' (pts_take (hv.le (hM1.trans hM)) (by omega) (by omega) (Nat.le_refl c)) pA
   have D : Pts M1 (.slice (if c = H then some ad else (some ad).map fun x => x.add (H * 2)) (l.length - H) (c - H)) (l.drop H) := by
    rw [if_neg (by omega)]
    exact pts_drop (hv.le hM1) (by omega) (by omega) (by omega)
   have FB := fun M' (hM : M1.le M') => ih (l.drop H) (by omega) nB _ M' (D.le hM) pB
   obtain ⟨_, vA, lA, _, _⟩ := oct_spec nA pA
   obtain ⟨_, vB, lB, _, _⟩ := oct_spec nB pB
   have eO : octL (octL (l.take H) ++ octL (l.drop H)) = octL l := by
    rw [oct_two nA nB (by rw [List.take_append_drop]; exact hP), List.take_append_drop]
   have pO : ∀ x ∈ octL (l.take H) ++ octL (l.drop H), placeB x = true := fun x hx => by
    rcases List.mem_append.1 hx with hx | hx
    ·exact valid_mem vA x hx
    ·exact valid_mem vB x hx
   have nO : octL (l.take H) ++ octL (l.drop H) ≠ [] := fun e => by
    have := (len_one vA).1
    rw [(List.append_eq_nil_iff.1 e).1] at this; simp at this
   have lO : (octL (l.take H) ++ octL (l.drop H)).length ≤ N := by rw [List.length_append]; omega
   refine VDraw.go (by kernel_rfl) ?_
   refine VBnd.mk H hH (by omega) ?_
   refine VBnd.mk H hH (by omega) ?_
   refine VFn.mk _ (FA _ (Mem.le_refl _)) ?_
   rintro rs M2 hM2 ⟨ua, rfl, xa⟩
   refine VFn.mk _ (FB _ hM2) ?_
   rintro rs M3 hM3 ⟨ub, rfl, xb⟩
   obtain ⟨uad, uac, rfl⟩ := xa.shape
   obtain ⟨ubd, ubc, rfl⟩ := xb.shape
   refine VFz.mk fun x Bx M4 hM4 hx => ?_
   refine VFn.mk _ (ConcatF hx (xa.le (hM3.trans hM4)) (xb.le hM4) (valid_mem vA) (valid_mem vB) (len_one vA).1 (by omega)) ?_
   rintro rs M5 hM5 ⟨uc, rfl, xc⟩
   refine VFn.mk _ (ih _ lO nO _ _ xc pO) ?_
   rintro rs M6 hM6 ⟨uo, rfl, xo⟩
   exact VFact.mk ⟨uo, rfl, by rw [← eO]; exact xo⟩ trivial
theorem octagon_fn (v : Value) (l : List Pt) (M : Mem) (hl : l ≠ []) (hv : Pts M v l) (hP : ∀ x ∈ l, placeB x = true) : V.Fn Tryz.prog 136 [v] M fun rs M' => ∃ u, rs = [u] ∧ Pts M' u (octL l) := octagonN_fn l.length l (Nat.le_refl _) hl v M hv hP
end Go.Proofs.YtcdlplobniogpaaGreat
namespace Go.Proofs.YtcdlplobniogpaaGreat
open Go Go.V Go.RowKit
theorem one_row {xs : List Value} {off : Nat} {x : Value} (h : xs[off]? = some x) : ∀ (j : Nat) (v : Value), [x][j]? = some v → xs[off + j]? = some v
 | 0, v, hj => by rw [← hj]; exact h
 | j + 1, v, hj => by simp at hj
theorem valid_64 {p : List Pt} (h : validB p = true) : i64P p := mem_64 (valid_mem h)
def eigL (r : List (List Pt)) (k : Nat) : List Pt := (r.take k).flatMap eightP
theorem eigL_step (r : List (List Pt)) {k : Nat} (h : k < r.length) : eigL r (k + 1) = eigL r k ++ eightP (gr r k) := by
 have : r[k]? = some (gr r k) := by unfold gr; simp [h]
 unfold eigL
 rw [List.take_add_one, this, List.flatMap_append]
 simp
theorem eigL_len {r : List (List Pt)} (hV : ∀ p ∈ r, validB p = true) : ∀ k, k ≤ r.length → (eigL r k).length ≤ 8 * k
 | 0, _ => by simp [eigL]
 | k + 1, h => by
  have h1 := eigL_len hV k (by omega)
  have h2 := (eight_spec (hV _ (gr_mem (show k < r.length by omega)))).2.2.1
  rw [eigL_step r (by omega), List.length_append]; omega
theorem cellsP_app (a b : List Pt) : cellsP (a ++ b) = cellsP a ++ cellsP b := by simp [cellsP]
theorem gr_drop (l : List (List Pt)) (n k : Nat) : gr (l.drop n) k = gr l (n + k) := by unfold gr; simp [List.getD_eq_getElem?_getD]
set_option maxRecDepth 20000 in
set_option maxHeartbeats 4000000 in
theorem tidied_fn (B : Nat) (v : Value) (l : List (List Pt)) (M : Mem) (hB : M B = some (.cells #[v] 121 (0, 0))) (hv : RegV M v l) (hV : ∀ p ∈ l, validB p = true) (hl : l.length ≤ 100000) :
  V.Fn Tryz.prog 83 [.pointer (some ⟨B, 0, none⟩)] M fun rs M' => ∃ u, rs = [u] ∧ RegV M' u (tidyB l) := by
 obtain ⟨ad, c, rfl, hm, hrd⟩ := hv.get
 refine Fn.of_vc cxOK Tryz.func83 rfl rfl rfl ?_
 refine VRead.mk (.slice ad l.length c) (cellAt hB 0 rfl) ?_
 refine VCode.loop cxOK (Nat × List Value × Mem) (fun (⟨i, xs, M1⟩ : Nat × List Value × Mem) => ⟨[(0, .v (.pointer (some ⟨B, 0, none⟩))), (3, .row 0), (16, .v (.slice ad l.length c)), (17, .v (.int .i64 l.length)), (18, .v (.int .i64 i))], [(0, some (.row 64 1 xs.length xs))], 1, M1, 60, ⟨fun _ => none, none, fun _ => none⟩⟩)
  (fun (⟨i, xs, M1⟩ : Nat × List Value × Mem) => (M.le M1 ∧ i ≤ l.length) ∧ PlsV M1 xs (keptL l i)) (fun (⟨i, _, _⟩ : Nat × List Value × Mem) => l.length - i) (0, [], M) ⟨⟨Mem.le_refl _, Nat.zero_le _⟩, PlsV.nil _⟩ (Wk.nil 3 64 1 rfl (Wk.mk' id (by repeat' constructor) (by repeat' constructor) (injOK_id _) rfl rfl rfl)) ?_
 rintro ⟨i, xs, M1⟩ ⟨⟨hM1, hi⟩, hp⟩ m
 have hxl : xs.length ≤ i := by rw [hp.1]; exact keptL_len l i
 refine VIf.mk (fun hlt => ?_) (fun hge => ?_)
 ·have hlt : i < l.length := lt_of_dec hlt
  obtain ⟨a1, w1, e1, p1, q1, c1⟩ := hrd M1 hM1 i hlt
  refine VIdx.mk a1 i e1 rfl hlt ?_
  refine VRead.mk w1 c1 ?_
  refine VFn.mk _ (covered_fn B _ l i M1 (hM1 _ _ hB) (hv.le hM1) hV hlt) ?_
  rintro rs M2 hM2 rfl
  have hs := keptL_step l i
  refine VIf.mk (fun hc => ?_) (fun hc => ?_)
  ·have hc : covB l i = false := (Bool.not_eq_true' _).mp hc
   rw [hc] at hs
   have hV1 := val_gr hV hlt
   refine VFn.mk _ (Clone_fn w1 (gr l i) M2 (p1.le hM2) (len_one hV1).1 (by have := (len_one hV1).2; omega)) ?_
   rintro rs M3 hM3 ⟨u, rfl, hu⟩
   obtain ⟨ud, uc, rfl⟩ := hu.shape
   have hb : (xs.length + 1) * 24 ≤ 140737488355328 := by omega
   refine VFact.mk hb ?_
   refine VArith.ok (by first | omega | (simp only; omega)) (by first | omega | (simp only; omega)) ?_
   refine ⟨(i + 1, xs ++ [.slice ud (gr l i).length uc], M3), ⟨⟨hM1.trans (hM2.trans hM3), hlt⟩, ?_⟩, (by first | omega | (simp only; omega)), Wk.mk' (fun k => if k = 0 then 2 else k) (by repeat' constructor) ⟨⟨rfl, ⟨rfl, rfl, ?_, ?_⟩⟩, trivial⟩ (by simp [injOK]) rfl rfl rfl⟩
   ·rw [hs]; exact (hp.le (hM2.trans hM3)).snoc hu (valid_64 hV1)
   ·rw [List.length_append]; rfl
   ·rfl
  ·have hc : covB l i = true := (Bool.not_eq_false' _).mp hc
   rw [hc] at hs
   refine VArith.ok (by first | omega | (simp only; omega)) (by first | omega | (simp only; omega)) ?_
   refine ⟨(i + 1, xs, M2), ⟨⟨hM1.trans hM2, hlt⟩, ?_⟩, (by first | omega | (simp only; omega)), (Wk.mk' id (by repeat' constructor) (by repeat' constructor) (injOK_id _) rfl rfl rfl)⟩
   rw [hs]
   simp only [if_true, List.append_nil]
   exact hp.le hM2
 have : i = l.length := by have := ge_of_dec hge; omega
 subst this
 have hp : PlsV M1 xs (keptA l) := hp
 refine VIf.mk (fun h32 => ?_) (fun h32 => ?_)
 ·have h32 : (keptA l).length ≤ 32 := by have := of_decide_eq_true h32; rw [← hp.1]; omega
  refine VFz.mk fun x Bx M2 hM2 hx => ?_
  refine VFact.mk ⟨x, rfl, ?_⟩ trivial
  unfold tidyB
  rw [if_pos h32]
  exact RegV.of' hx hp.1 (hp.le hM2)
 have hn : ¬ (keptA l).length ≤ 32 := by have := of_decide_eq_false h32; rw [← hp.1]; omega
 obtain ⟨hVr, hne, hP⟩ := tidy_rest hV hn
 have hx32 : 32 < xs.length := by rw [hp.1]; omega
 have hrl : ((keptA l).drop 31).length = xs.length - 31 := by rw [List.length_drop, hp.1]
 refine VFact.mk (show 0 < xs.length by omega) ?_
 refine VBnd.mk 31 rfl (by omega) ?_
 refine VFact.mk (show 31 < xs.length by omega) ?_
 refine VCode.loop cxOK (Nat × Mem) (fun (⟨k, M2⟩ : Nat × Mem) => ⟨[(3, .row 0), (7, .row 2), (39, .row 1), (40, .v (.int .i64 ((xs.length - 31 : Nat) : Int))), (41, .v (.int .i64 k))], [(0, some (.row 64 1 xs.length xs)), (1, some (.vw 1 0 31 (xs.length - 31))), (2, some (.row 44 2 (eigL ((keptA l).drop 31) k).length (cellsP (eigL ((keptA l).drop 31) k))))], 3, M2, 60, ⟨fun _ => none, none, fun _ => none⟩⟩)
  (fun (⟨k, M2⟩ : Nat × Mem) => M1.le M2 ∧ k ≤ xs.length - 31) (fun (⟨k, _⟩ : Nat × Mem) => xs.length - 31 - k) (0, M1) ⟨Mem.le_refl _, Nat.zero_le _⟩ (Wk.nil 7 44 2 rfl (Wk.mk' id (by repeat' constructor) (by repeat' constructor) (injOK_id _) rfl rfl rfl)) ?_
 rintro ⟨k, M2⟩ ⟨hM2, hk⟩ m2
 have hel := eigL_len hVr k (by omega)
 refine VIf.mk (fun hlt => ?_) (fun hge => ?_)
 ·have hlt : k < xs.length - 31 := by have := of_decide_eq_true hlt; omega
  obtain ⟨x, gx, px, qx⟩ := hp.get (i := 31 + k) (by rw [← hp.1]; omega)
  have hV1 : validB (gr (keptA l) (31 + k)) = true := hV _ (keptA_sub (gr_mem (by rw [← hp.1]; omega)))
  refine VIdxR.mk k rfl hlt ?_
  refine VCells.mk [x] rfl (one_row (by simpa using gx)) ⟨x, rfl, ?_⟩
  refine VFn.mk _ (Eight_is (px.le hM2) qx hV1 rfl) ?_
  rintro rs M3 hM3 ⟨u, rfl, hu⟩
  refine VSl.mk _ _ hu ?_
  have h8 := (eight_spec hV1).2.2.1
  have hst := eigL_step ((keptA l).drop 31) (k := k) (by omega)
  rw [gr_drop] at hst
  have hb : ((eigL ((keptA l).drop 31) k).length + (eightP (gr (keptA l) (31 + k))).length) * 16 ≤ 140737488355328 := by omega
  refine VFact.mk hb ?_
  refine VArith.ok (by first | omega | (simp only; omega)) (by first | omega | (simp only; omega)) ?_
  refine ⟨(k + 1, M3), ⟨hM2.trans hM3, hlt⟩, (by first | omega | (simp only; omega)), Wk.mk' (fun k => if k = 2 then 3 else k) (by repeat' constructor) ⟨⟨rfl, ⟨rfl, rfl, rfl, rfl⟩⟩, ⟨rfl, ⟨rfl, rfl⟩, ⟨rfl, rfl⟩, rfl⟩, ⟨rfl, ⟨rfl, rfl, ?_, ?_⟩⟩, trivial⟩ (by simp [injOK]) rfl rfl rfl⟩
  ·rw [hst, List.length_append]
  ·rw [hst, cellsP_app]
 have : k = xs.length - 31 := by have := of_decide_eq_false hge; omega
 subst this
 have hE : eigL ((keptA l).drop 31) (xs.length - 31) = ((keptA l).drop 31).flatMap eightP := by unfold eigL; rw [← hrl, List.take_length]
 have hEo : octL (eigL ((keptA l).drop 31) (xs.length - 31)) = octL ((keptA l).drop 31).flatten := by
  rw [hE]; exact oct_eights hVr fun e => hne (by rw [e]; rfl)
 have hEp : ∀ y ∈ eigL ((keptA l).drop 31) (xs.length - 31), placeB y = true := fun y hy => by
  rw [hE] at hy
  obtain ⟨q, hq, hy⟩ := List.mem_flatMap.1 hy
  exact valid_mem (eight_spec (hVr q hq)).2.1 y hy
 have hEn : eigL ((keptA l).drop 31) (xs.length - 31) ≠ [] := fun e => by
  rw [hE] at e
  have h0 : 0 < ((keptA l).drop 31).length := by omega
  have hq := gr_mem h0
  have := (len_one (eight_spec (hVr _ hq)).2.1).1
  have h2 : gr ((keptA l).drop 31) 0 ∈ (keptA l).drop 31 := hq
  have h3 := List.flatMap_eq_nil_iff.1 e _ h2
  rw [h3] at this; simp at this
 refine VDraw.frz [3, 7] (by kernel_rfl) ?_
 refine VFz.mk fun x Bx M3 hM3 hx => ?_
 refine VFz.mk fun y By M4 hM4 hy => ?_
 have hy : Pts M4 y (eigL ((keptA l).drop 31) (xs.length - 31)) := hy
 obtain ⟨xa, xc, rfl⟩ := SlAt.shape hx
 obtain ⟨xad, rfl⟩ := SlAt.some hx (by omega)
 have hcap : xs.length ≤ xc := by obtain ⟨_, _, e, h, _⟩ := hx; cases e; exact h
 refine VBnd.mk 31 rfl (by omega) ?_
 refine VBnd.mk 31 rfl (by omega) ?_
 refine VFn.mk _ (octagon_fn y _ M4 hEn hy hEp) ?_
 rintro rs M5 hM5 ⟨o, rfl, ho⟩
 obtain ⟨oa, oc, rfl⟩ := ho.shape
 refine VSl.mk 31 (xs.take 31) ((SlAt.take hx (by omega) (Nat.le_refl _) (by omega)).le (hM4.trans hM5)) ?_
 refine VFact.mk rfl ?_
 refine VFact.mk (show (31 + 1) * 24 ≤ 140737488355328 by decide) ?_
 refine VFact.mk (fun h => absurd h (by decide)) ?_
 intro _
 refine VFz.mk fun z Bz M6 hM6 hz => ?_
 refine VFact.mk ⟨z, rfl, ?_⟩ trivial
 unfold tidyB
 rw [if_neg hn]
 have ho : Pts M5 (.slice oa (octL (eigL ((keptA l).drop 31) (xs.length - 31))).length oc) (octL ((keptA l).drop 31).flatten) := by rw [← hEo]; exact ho
 refine RegV.of' hz (by rw [List.length_append, List.length_take]; simp; omega) ?_
 exact ((hp.take 31).le (hM2.trans (hM3.trans (hM4.trans (hM5.trans hM6))))).snoc (ho.le hM6) (valid_64 (oct_spec hne hP).2.1)
theorem tidy_fn (v : Value) (l : List (List Pt)) (M : Mem) (hv : RegV M v l) (hV : ∀ p ∈ l, validB p = true) (hl : l.length ≤ 100000) :
  V.Fn Tryz.prog 51 [v] M fun rs M' => ∃ u, rs = [u] ∧ RegV M' u (tidyB l) := by
 obtain ⟨ad, c, rfl⟩ := hv.shape
 refine Fn.of_vc cxOK Tryz.func51 rfl rfl rfl ?_
 refine VOwn.frz ?_
 refine VFzB.mk fun x B M1 hM1 hB => ?_
 refine VFn.mk _ (tidied_fn B _ l M1 hB (hv.le hM1) hV hl) ?_
 rintro rs M2 hM2 ⟨u, rfl, hu⟩
 exact VFact.mk ⟨u, rfl, hu⟩ trivial
def tidyOK (l : List (List Pt)) : Bool := decide (l.length ≤ 4000) && l.all validB
theorem Tidy_fn (v : Value) (l : List (List Pt)) (M : Mem) (hv : RegV M v l) :
  V.Fn Tryz.prog 25 [v] M fun rs M' => if tidyOK l = true then ∃ u, rs = [u, .int .i64 0] ∧ RegV M' u (tidyB l) else rs = [.slice none 0 0, .int .i64 1] := by
 obtain ⟨ad, c, rfl⟩ := hv.shape
 refine Fn.of_vc cxOK Tryz.func25 rfl rfl rfl ?_
 refine VIf.mk (fun h => ?_) (fun h => ?_)
 ·repeat (first | refine VIf.tt ?_ | refine VIf.ff ?_)
  refine VFact.mk ?_ trivial
  have : ¬ l.length ≤ 4000 := by have := of_decide_eq_true h; omega
  unfold tidyOK
  rw [decide_eq_false this]; rfl
 have h4 : l.length ≤ 4000 := by have := of_decide_eq_false h; omega
 repeat (first | refine VIf.tt ?_ | refine VIf.ff ?_)
 refine VFn.mk _ (invalid_fn _ l M hv) ?_
 rintro rs M1 hM1 rfl
 repeat (first | refine VIf.tt ?_ | refine VIf.ff ?_)
 refine VIf.mk (fun h => ?_) (fun h => ?_)
 ·refine VFact.mk ?_ trivial
  have h : l.all validB = false := by rw [← not_any, h]; rfl
  unfold tidyOK
  rw [h, Bool.and_false]; rfl
 have hall : l.all validB = true := by rw [← not_any, h]; rfl
 refine VFn.mk _ (tidy_fn _ l M1 (hv.le hM1) (fun p hp => List.all_eq_true.1 hall p hp) (by omega)) ?_
 rintro rs M2 hM2 ⟨u, rfl, hu⟩
 refine VFact.mk ?_ trivial
 unfold tidyOK
 rw [decide_eq_true h4, hall]
 exact ⟨u, rfl, hu⟩
end Go.Proofs.YtcdlplobniogpaaGreat
namespace Go.Proofs.YtcdlplobniogpaaGreat
open Go Go.V Go.RowKit
def keepAB (A B C : Int) (a b : Pt) : List Pt := (if ovr A B C a ≤ 0 then [a] else []) ++ (if crossesB (ovr A B C a) (ovr A B C b) = true then frameP a b (ovr A B C a) (ovr A B C b) else [])
set_option maxRecDepth 20000 in
set_option maxHeartbeats 2000000 in
theorem Keep_call {nt : Nat} {A B C : Int} {ks : List Pt} {a b : Pt} {M : Mem} {G : Gh} {K : SV → St → Prop} (hlen : ks.length ≤ 100000) (hH : halfB A B C = true) (ha : placeB a = true) (hb : placeB b = true)
  (hK : K (.v (.tuple #[])) ⟨[(8, .box 1 0), (9, .box 2 0)], [(1, some (.box 64 [.row 3])), (3, some (.row 44 2 (ks ++ keepAB A B C a b).length (cellsP (ks ++ keepAB A B C a b)))), (0, some (.box 188 [.v (.int .i64 A), .v (.int .i64 B), .v (.int .i64 C)])), (2, some (.box 190 [.clo 158 [] [.box 0 0, .box 1 0]]))], 4, M, nt, G⟩) :
  VCall Tryz.prog 158 [.v (ptv a), .v (ptv b), .box 0 0, .box 1 0] ⟨[(8, .box 1 0), (9, .box 2 0)], [(1, some (.box 64 [.row 3])), (3, some (.row 44 2 ks.length (cellsP ks))), (0, some (.box 188 [.v (.int .i64 A), .v (.int .i64 B), .v (.int .i64 C)])), (2, some (.box 190 [.clo 158 [] [.box 0 0, .box 1 0]]))], 4, M, nt, G⟩ K := by
 refine VCall.post ?_
 refine VCall.inline cxOK Tryz.func158 rfl rfl rfl [(8, .box 1 0), (9, .box 2 0)] [] (by repeat' constructor) (by repeat' constructor) ?_
 intro val f0
 refine VDraw.go (by kernel_rfl) ?_
 have bs := ovr_bd hH ha
 have bt := ovr_bd hH hb
 refine VFn.p (over_fn A B C a M hH ha) ?_
 refine VFn.p (over_fn A B C b M hH hb) ?_
 refine VIf.mk (fun h1 => ?_) (fun h1 => ?_)
 ·have h1 := of_decide_eq_true h1
  refine VFact.mk (by show (ks.length + 1) * 16 ≤ _; omega) ?_
  refine VFn.p (crossesC_fn _ _ M) ?_
  refine VIf.mk (fun h2 => ?_) (fun h2 => ?_)
  ·refine VDraw.go (by kernel_rfl) ?_
   refine VFn.mk _ (frameC_fn a b _ _ M ha hb bs bt h2) ?_
   rintro rs M' hM ⟨u, rfl, hu⟩
   obtain ⟨ud, uc, rfl⟩ := hu.shape
   refine VSl.mk _ _ hu ?_
   have hk : keepAB A B C a b = [a] ++ frameP a b (ovr A B C a) (ovr A B C b) := by unfold keepAB; rw [if_pos h1, if_pos h2]
   have el : (ks ++ keepAB A B C a b).length = (ks.length + 1) + (frameP a b (ovr A B C a) (ovr A B C b)).length := by rw [hk]; simp; try omega
   have ec : cellsP (ks ++ keepAB A B C a b) = (cellsP ks ++ ([Value.int .i64 a.1, .int .i64 a.2] ++ [])) ++ cellsP (frameP a b (ovr A B C a) (ovr A B C b)) := by rw [hk]; simp [cellsP]
   refine VFact.mk (by show ((ks.length + 1) + 4) * 16 ≤ _; omega) ?_
   refine VFact.mk hM ?_
   refine VFact.mk (fun _ => rfl) ?_
   repeat refine VFact.mk rfl ?_
   refine ⟨.v (.tuple #[]), _, ?_, hK⟩
   refine ⟨⟨fun i => if i = 3 then 10 else i, rfl, rfl, ?_, ?_, ?_⟩, rfl, rfl, rfl⟩
   ·repeat' constructor
   ·repeat' (first | exact el | exact ec.symm | exact el.symm | exact ec | constructor)
   ·exact injOK_b rfl
  ·have hk : keepAB A B C a b = [a] := by unfold keepAB; rw [if_pos h1, if_neg (by rw [h2]; decide)]; simp
   have el : (ks ++ keepAB A B C a b).length = (ks.length + 1) := by rw [hk]; simp
   have ec : cellsP (ks ++ keepAB A B C a b) = (cellsP ks ++ ([Value.int .i64 a.1, .int .i64 a.2] ++ [])) := by rw [hk]; simp [cellsP]
   refine VFact.mk (fun _ _ h => h) ?_
   refine VFact.mk (fun _ => rfl) ?_
   repeat refine VFact.mk rfl ?_
   refine ⟨.v (.tuple #[]), _, ?_, hK⟩
   refine ⟨⟨fun i => if i = 3 then 9 else i, rfl, rfl, ?_, ?_, ?_⟩, rfl, rfl, rfl⟩
   ·repeat' constructor
   ·repeat' (first | exact el | exact ec.symm | exact el.symm | exact ec | constructor)
   ·exact injOK_b rfl
 ·have h1 := of_decide_eq_false h1
  refine VFn.p (crossesC_fn _ _ M) ?_
  refine VIf.mk (fun h2 => ?_) (fun h2 => ?_)
  ·refine VDraw.go (by kernel_rfl) ?_
   refine VFn.mk _ (frameC_fn a b _ _ M ha hb bs bt h2) ?_
   rintro rs M' hM ⟨u, rfl, hu⟩
   obtain ⟨ud, uc, rfl⟩ := hu.shape
   refine VSl.mk _ _ hu ?_
   have hk : keepAB A B C a b = [] ++ frameP a b (ovr A B C a) (ovr A B C b) := by unfold keepAB; rw [if_neg h1, if_pos h2]
   have el : (ks ++ keepAB A B C a b).length = ks.length + (frameP a b (ovr A B C a) (ovr A B C b)).length := by rw [hk]; simp; try omega
   have ec : cellsP (ks ++ keepAB A B C a b) = cellsP ks ++ cellsP (frameP a b (ovr A B C a) (ovr A B C b)) := by rw [hk]; simp [cellsP]
   refine VFact.mk (by show (ks.length + 4) * 16 ≤ _; omega) ?_
   refine VFact.mk hM ?_
   refine VFact.mk (fun _ => rfl) ?_
   repeat refine VFact.mk rfl ?_
   refine ⟨.v (.tuple #[]), _, ?_, hK⟩
   refine ⟨⟨fun i => if i = 3 then 8 else i, rfl, rfl, ?_, ?_, ?_⟩, rfl, rfl, rfl⟩
   ·repeat' constructor
   ·repeat' (first | exact el | exact ec.symm | exact el.symm | exact ec | constructor)
   ·exact injOK_b rfl
  ·have hk : keepAB A B C a b = [] := by unfold keepAB; rw [if_neg h1, if_neg (by rw [h2]; decide)]; simp
   have el : (ks ++ keepAB A B C a b).length = ks.length := by rw [hk]; simp
   have ec : cellsP (ks ++ keepAB A B C a b) = cellsP ks := by rw [hk]; simp [cellsP]
   refine VFact.mk (fun _ _ h => h) ?_
   refine VFact.mk (fun _ => rfl) ?_
   repeat refine VFact.mk rfl ?_
   refine ⟨.v (.tuple #[]), _, ?_, hK⟩
   refine ⟨⟨fun i => if i = 3 then 3 else i, rfl, rfl, ?_, ?_, ?_⟩, rfl, rfl, rfl⟩
   ·repeat' constructor
   ·repeat' (first | exact el | exact ec.symm | exact el.symm | exact ec | constructor)
   ·exact injOK_b rfl
end Go.Proofs.YtcdlplobniogpaaGreat
namespace Go.Proofs.YtcdlplobniogpaaGreat
open Go Go.V Go.RowKit
theorem filter_step (f : Pt → Bool) (ps : List Pt) {i : Nat} (h : i < ps.length) : (ps.take (i + 1)).filter f = (ps.take i).filter f ++ (if f (gp ps i) = true then [gp ps i] else []) := by
 have : ps[i]? = some (gp ps i) := by simp [gp, h]
 rw [List.take_add_one, List.filter_append, this]
 by_cases hf : f (gp ps i) = true
 ·rw [if_pos hf]; simp [hf]
 ·rw [if_neg hf]; simp [hf]
theorem Has_any {v : Value} {qs : List Pt} {x : Pt} {M : Mem} (hv : Pts M v qs) (hV : validB qs = true) (hx : placeB x = true) : V.Fn Tryz.prog 176 [v, ptv x] M fun rs _ => rs = [.bool (hasB qs x), .int .i64 0] :=
 hasB_is hv (mem_64 (valid_mem hV)) (place_64 hx) (hasE_is hV hx rfl)
set_option maxRecDepth 20000 in
set_option maxHeartbeats 2000000 in
theorem cornersC_fn (v w : Value) (ps qs : List Pt) (M : Mem) (hv : Pts M v ps) (hw : Pts M w qs) (hV : validB qs = true) (hP : ∀ x ∈ ps, placeB x = true) (hl : ps.length ≤ 100000) :
  V.Fn Tryz.prog 144 [v, w] M fun rs M' => ∃ u, rs = [u] ∧ Pts M' u (cornA ps qs) := by
 obtain ⟨ad, c, rfl⟩ := hv.shape
 obtain ⟨_, _, hrd⟩ := hv.cellsOf
 refine Fn.of_vc cxIOK Tryz.func144 rfl rfl rfl ?_
 refine VCode.loop cxIOK (Nat × Mem)
  (fun s => ⟨[(1, .v w), (5, .row 0), (10, .v (.slice ad ps.length c)), (11, .v (.int .i64 ps.length)), (12, .v (.int .i64 s.1))], [(0, some (.row 44 2 ((ps.take s.1).filter (hasB qs)).length (cellsP ((ps.take s.1).filter (hasB qs)))))], 1, s.2, 29, ⟨fun _ => none, none, fun _ => none⟩⟩)
  (fun s => s.1 ≤ ps.length ∧ M.le s.2) (fun s => ps.length - s.1) (0, M) ⟨Nat.zero_le _, Mem.le_refl _⟩ ?_ ?_
 ·exact Wk.nil 5 44 2 rfl (Wk.mk' id (by repeat' constructor) (by repeat' constructor) (injOK_id _) rfl rfl rfl)
 rintro ⟨i, M1⟩ ⟨hi, hM1⟩ m
 simp only at hi hM1
 refine VIf.mk (fun hlt => ?_) (fun hge => ?_)
 rotate_left
 ·have : i = ps.length := by have := of_decide_eq_false hge; simp only at this; omega
  subst this
  refine VFz.mk fun u B M2 hM2 hu => ?_
  refine VFact.mk ⟨u, rfl, ?_⟩ trivial
  have hu : Pts M2 u ((ps.take ps.length).filter (hasB qs)) := hu
  rw [List.take_length] at hu
  exact hu
 have hlt : i < ps.length := by have := of_decide_eq_true hlt; simp only at this; omega
 obtain ⟨ad', rfl, hp⟩ := hrd M1 hM1 i hlt
 have hst := filter_step (hasB qs) ps hlt
 have hfl : ((ps.take i).filter (hasB qs)).length ≤ ps.length := by
  have := List.length_filter_le (hasB qs) (ps.take i)
  rw [List.length_take] at this; omega
 refine VIdx.mk ad' i rfl rfl hlt ?_
 refine VReads.mk [.int .i64 (gp ps i).1, .int .i64 (gp ps i).2] rfl hp ?_
 refine VOwn.frz ?_
 refine VFn.mk _ (Has_any (x := gp ps i) (hw.le hM1) hV (hP _ (gp_mem hlt))) ?_
 rintro rs M2 hM2 rfl
 refine VIf.mk (fun h => ?_) (fun h => ?_)
 ·rw [if_pos h] at hst
  refine VFact.mk (by show (((ps.take i).filter (hasB qs)).length + 1) * 16 ≤ _; omega) ?_
  refine VArith.ok (by first | omega | (simp only; omega)) (by first | omega | (simp only; omega)) ?_
  refine ⟨(i + 1, M2), ⟨hlt, hM1.trans hM2⟩, by simp only; omega, Wk.mk' (fun k => if k = 0 then 3 else k) (by repeat' constructor) ⟨⟨rfl, ⟨rfl, rfl, ?_, ?_⟩⟩, trivial⟩ (by simp [injOK]) rfl rfl rfl⟩
  ·show ((ps.take (i + 1)).filter (hasB qs)).length = _
   rw [hst]; simp
  ·show cellsP ((ps.take (i + 1)).filter (hasB qs)) = _
   rw [hst]; simp [cellsP]
 ·rw [if_neg (by rw [h]; decide), List.append_nil] at hst
  refine VArith.ok (by first | omega | (simp only; omega)) (by first | omega | (simp only; omega)) ?_
  refine ⟨(i + 1, M2), ⟨hlt, hM1.trans hM2⟩, by simp only; omega, Wk.mk' id (by repeat' constructor) ⟨⟨rfl, ⟨rfl, rfl, ?_, ?_⟩⟩, trivial⟩ (injOK_id _) rfl rfl rfl⟩
  ·exact congrArg List.length hst
  ·exact congrArg cellsP hst
end Go.Proofs.YtcdlplobniogpaaGreat
namespace Go.Proofs.YtcdlplobniogpaaGreat
open Go Go.V Go.RowKit
theorem crossP_bd {a b c : Pt} (ha : placeB a = true) (hb : placeB b = true) (hc : placeB c = true) : -2000000000000 ≤ crossP a b c ∧ crossP a b c ≤ 2000000000000 := by
 have ha := place_C ha
 have hb := place_C hb
 have hc := place_C hc
 unfold isC at *
 have p1 := bd12 (a := b.1 - a.1) (b := c.2 - a.2) (by omega) (by omega) (by omega) (by omega)
 have p2 := bd12 (a := b.2 - a.2) (b := c.1 - a.1) (by omega) (by omega) (by omega) (by omega)
 unfold crossP cross
 omega
theorem turnP_fn (a b c : Pt) (M : Mem) (ha : placeB a = true) (hb : placeB b = true) (hc : placeB c = true) : FnP Tryz.prog 177 [ptv a, ptv b, ptv c] M [.int .i64 (crossP a b c)] :=
 turnC_fn a.1 a.2 b.1 b.2 c.1 c.2 M (place_C ha).1 (place_C ha).2 (place_C hb).1 (place_C hb).2 (place_C hc).1 (place_C hc).2
set_option maxRecDepth 20000 in
set_option maxHeartbeats 4000000 in
theorem crossings_fn (v w : Value) (ps qs : List Pt) (M : Mem) (hv : Pts M v ps) (hw : Pts M w qs) (hp : validB ps = true) (hq : validB qs = true) :
  V.Fn Tryz.prog 145 [v, w] M fun rs M' => ∃ u, rs = [u] ∧ Pts M' u (crosA ps qs) := by
 obtain ⟨ad, c, rfl⟩ := hv.shape
 obtain ⟨bd, bc, rfl⟩ := hw.shape
 have hqp := valid_mem hq
 have hpp := valid_mem hp
 refine Fn.of_vc cxIOK Tryz.func145 rfl rfl rfl ?_
 refine VOwn.frz ?_
 refine VFn.mk _ (sidesC_fn ad ps.length c M) ?_
 rintro rs M1 hM1 ⟨B1, rfl, hB1⟩
 refine VCode.rangeB cxIOK rfl (sidesC_iter M1 B1 _ ps hB1 (hv.le hM1)) (fun x hx => ?_) [(3, .box 0 0), (5, .box 1 0)] rfl (by kernel_rfl) (by kernel_rfl) Mem
  (fun k M' => ⟨[(3, .box 0 0), (5, .box 1 0)], [(1, some (.box 64 [.row 2])), (2, some (.row 44 2 (crosX ps qs k).length (cellsP (crosX ps qs k)))), (0, some (.box 64 [.v (.slice bd qs.length bc)]))], 3, M', 50, ⟨fun _ => none, none, fun _ => none⟩⟩)
  (fun k M' => M1.le M' ∧ k ≤ ps.length) M1 ⟨Mem.le_refl _, Nat.zero_le _⟩ ?_ (fun k s => ⟨rfl, rfl⟩) ?_ ?_
 ·simp only [sidesL, List.mem_map] at hx
  obtain ⟨k, _, rfl⟩ := hx
  rfl
 ·exact Wk.nilBox 1 64 [] [] 44 2 rfl (Wk.mk' id (by repeat' constructor) (by repeat' constructor) (injOK_id _) rfl rfl rfl)
 ·rintro k M2 args ⟨hM2, _⟩ hxs m f
  obtain ⟨hk, rfl⟩ := sidesL_get hxs
  intro m'
  have pa := hpp _ (gp_mem hk)
  have pb := hpp _ (nx_mem hk)
  refine VOwn.frz ?_
  refine VFn.mk _ (sidesC_fn bd qs.length bc M2) ?_
  rintro rs M3 hM3 ⟨B2, rfl, hB2⟩
  refine VCode.rangeB cxIOK rfl (sidesC_iter M3 B2 _ qs hB2 (hw.le (hM1.trans (hM2.trans hM3)))) (fun x hx => ?_) [(3, .box 0 0), (5, .box 1 0), (6, .box 3 0), (7, .box 4 0)] rfl (by kernel_rfl) (by kernel_rfl) Mem
   (fun j M' => ⟨[(3, .box 0 0), (5, .box 1 0), (6, .box 3 0), (7, .box 4 0)], [(1, some (.box 64 [.row 2])), (2, some (.row 44 2 (crosX ps qs k ++ rowX ps qs k j).length (cellsP (crosX ps qs k ++ rowX ps qs k j)))), (0, some (.box 64 [.v (.slice bd qs.length bc)])), (3, some (.box 44 [.v (.int .i64 (gp ps k).1), .v (.int .i64 (gp ps k).2)])), (4, some (.box 44 [.v (.int .i64 (nx ps k).1), .v (.int .i64 (nx ps k).2)]))], 5, M', 50, ⟨fun _ => none, none, fun _ => none⟩⟩)
   (fun j M' => M3.le M' ∧ j ≤ qs.length) M3 ⟨Mem.le_refl _, Nat.zero_le _⟩ ?_ (fun k s => ⟨rfl, rfl⟩) ?_ ?_
  ·simp only [sidesL, List.mem_map] at hx
   obtain ⟨k, _, rfl⟩ := hx
   rfl
  ·have e : crosX ps qs k ++ rowX ps qs k 0 = crosX ps qs k := by unfold rowX; simp
   simp only [e]
   exact (Wk.mk' id (by repeat' constructor) (by repeat' constructor) (injOK_id _) rfl rfl rfl)
  ·rintro j M4 args ⟨hM4, _⟩ hxs m2 f2
   obtain ⟨hj, rfl⟩ := sidesL_get hxs
   intro m2'
   have qa := hqp _ (gp_mem hj)
   have qb := hqp _ (nx_mem hj)
   refine VDraw.go (by kernel_rfl) ?_
   refine VFn.p (turnP_fn (gp ps k) (nx ps k) (gp qs j) M4 pa pb qa) ?_
   refine VOwn.frz ?_
   refine VFn.p (turnP_fn (gp ps k) (nx ps k) (nx qs j) M4 pa pb qb) ?_
   refine VDraw.go (by kernel_rfl) ?_
   refine VOwn.frz ?_
   refine VFn.p (crossesC_fn _ _ M4) ?_
   have hfalse : crossIJ ps qs k j = false → crosX ps qs k ++ rowX ps qs k j = crosX ps qs k ++ rowX ps qs k (j + 1) := fun h => by
    rw [rowX_step]; unfold cellX; rw [if_neg (by rw [h]; decide), List.append_nil]
   have lenB : (crosX ps qs k ++ rowX ps qs k j).length ≤ 100000 := by
    have h1 := crosX_len ps qs (len_one hq).2 k
    have h2 := rowX_len ps qs k j
    have := (len_one hp).2
    have := (len_one hq).2
    rw [List.length_append]; omega
   refine VIf.mk (fun c1 => ?_) (fun c1 => ?_)
   ·repeat (first | refine VIf.tt ?_ | refine VIf.ff ?_)
    try refine VOwn.frz ?_
    refine VFn.p (turnP_fn (gp qs j) (nx qs j) (gp ps k) M4 qa qb pa) ?_
    repeat (first | refine VIf.tt ?_ | refine VIf.ff ?_)
    try refine VOwn.frz ?_
    refine VFn.p (turnP_fn (gp qs j) (nx qs j) (nx ps k) M4 qa qb pb) ?_
    repeat (first | refine VIf.tt ?_ | refine VIf.ff ?_)
    try refine VOwn.frz ?_
    refine VFn.p (crossesC_fn _ _ M4) ?_
    repeat (first | refine VIf.tt ?_ | refine VIf.ff ?_)
    refine VIf.mk (fun c2 => ?_) (fun c2 => ?_)
    ·have hc : crossIJ ps qs k j = true := by unfold crossIJ; rw [c1, c2]; rfl
     have er : crosX ps qs k ++ rowX ps qs k (j + 1) = (crosX ps qs k ++ rowX ps qs k j) ++ frameP (gp qs j) (nx qs j) (crossP (gp ps k) (nx ps k) (gp qs j)) (crossP (gp ps k) (nx ps k) (nx qs j)) := by
      rw [rowX_step]; unfold cellX; rw [if_pos hc, List.append_assoc]
     refine VDraw.go (by kernel_rfl) ?_
     refine VFn.mk _ (frameC_fn (gp qs j) (nx qs j) _ _ M4 qa qb (crossP_bd pa pb qa) (crossP_bd pa pb qb) c1) ?_
     rintro rs M5 hM5 ⟨u, rfl, hu⟩
     obtain ⟨ud, uc, rfl⟩ := hu.shape
     refine VSl.mk _ _ hu ?_
     refine VFact.mk (by show ((crosX ps qs k ++ rowX ps qs k j).length + 4) * 16 ≤ _; omega) ?_
     refine ⟨M5, ⟨hM4.trans hM5, hj⟩, Wk.mk' (fun i => if i = 2 then 7 else i) (by repeat' constructor) ⟨⟨rfl, by repeat' constructor⟩, ⟨rfl, ⟨rfl, rfl, ?_, ?_⟩⟩, ⟨rfl, by repeat' constructor⟩, ⟨rfl, by repeat' constructor⟩, ⟨rfl, by repeat' constructor⟩, trivial⟩ (by simp [injOK]) rfl rfl rfl⟩
     ·rw [er, List.length_append]
     ·rw [er]; simp [cellsP]
    ·have hc := hfalse (by unfold crossIJ; rw [c2, Bool.and_false])
     refine ⟨M4, ⟨hM4, hj⟩, Wk.mk' id (by repeat' constructor) ⟨⟨rfl, by repeat' constructor⟩, ⟨rfl, ⟨rfl, rfl, ?_, ?_⟩⟩, ⟨rfl, by repeat' constructor⟩, ⟨rfl, by repeat' constructor⟩, ⟨rfl, by repeat' constructor⟩, trivial⟩ (injOK_id _) rfl rfl rfl⟩
     ·exact congrArg List.length hc.symm
     ·exact congrArg cellsP hc.symm
   ·have hc := hfalse (by unfold crossIJ; rw [c1, Bool.false_and])
    repeat (first | refine VIf.tt ?_ | refine VIf.ff ?_)
    refine ⟨M4, ⟨hM4, hj⟩, Wk.mk' id (by repeat' constructor) ⟨⟨rfl, by repeat' constructor⟩, ⟨rfl, ⟨rfl, rfl, ?_, ?_⟩⟩, ⟨rfl, by repeat' constructor⟩, ⟨rfl, by repeat' constructor⟩, ⟨rfl, by repeat' constructor⟩, trivial⟩ (injOK_id _) rfl rfl rfl⟩
    ·exact congrArg List.length hc.symm
    ·exact congrArg cellsP hc.symm
  ·rintro M4 m2 ⟨hM4, _⟩
   have er : crosX ps qs k ++ rowX ps qs k (sidesL qs).length = crosX ps qs (k + 1) := by rw [crosX_step, show (sidesL qs).length = qs.length by simp [sidesL]]
   refine ⟨M4, ⟨hM2.trans (hM3.trans hM4), hk⟩, Wk.mk' id (by repeat' constructor) (by repeat' (first | exact congrArg List.length er.symm | exact congrArg cellsP er.symm | exact congrArg List.length er | exact congrArg cellsP er | constructor)) (injOK_id _) rfl rfl rfl⟩
 ·rintro M2 m ⟨hM2, _⟩
  have er : crosX ps qs (sidesL ps).length = crosA ps qs := by unfold crosA; rw [show (sidesL ps).length = ps.length by simp [sidesL]]
  refine VFz.mk fun u B M3 hM3 hu => ?_
  have hu : Pts M3 u (crosX ps qs (sidesL ps).length) := hu
  rw [er] at hu
  exact VFact.mk ⟨u, rfl, hu⟩ trivial
end Go.Proofs.YtcdlplobniogpaaGreat
namespace Go.Proofs.YtcdlplobniogpaaGreat
open Go Go.V Go.RowKit
set_option maxRecDepth 20000 in
set_option maxHeartbeats 4000000 in
theorem Cut_fn (v : Value) (ps : List Pt) (A B C : Int) (M : Mem) (hv : Pts M v ps) (h64 : i64P ps) :
  V.Fn Tryz.prog 120 [v, .agg #[.int .i64 A, .int .i64 B, .int .i64 C]] M fun rs M' => if (validB ps && halfB A B C) = true then ∃ u, rs = [u, .bool (decide (0 < (cutA ps A B C).length)), .int .i64 0] ∧ Pts M' u (arC (cutA ps A B C)) else rs = [.slice none 0 0, .bool false, .int .i64 1] := by
 obtain ⟨ad, c, rfl⟩ := hv.shape
 refine Fn.of_vc cxIOK Tryz.func120 rfl rfl rfl ?_
 refine VOwn.frz ?_
 refine VFn.mk _ (Valid_fn _ ps M hv h64) ?_
 rintro rs M1 hM1 rfl
 refine VIf.mk (fun h => ?_) (fun h => ?_)
 ·repeat (first | refine VIf.tt ?_ | refine VIf.ff ?_)
  refine VFact.mk ?_ trivial
  rw [(Bool.not_eq_true' _).mp h]; rfl
 have hV := (Bool.not_eq_false' _).mp h
 repeat (first | refine VIf.tt ?_ | refine VIf.ff ?_)
 refine VOwn.frz ?_
 refine VFn.p (halfValid_fn A B C M1) ?_
 repeat (first | refine VIf.tt ?_ | refine VIf.ff ?_)
 refine VIf.mk (fun h => ?_) (fun h => ?_)
 ·refine VFact.mk ?_ trivial
  rw [(Bool.not_eq_true' _).mp h, Bool.and_false]; rfl
 have hH := (Bool.not_eq_false' _).mp h
 rw [hV, hH]
 have hpp := valid_mem hV
 refine VOwn.frz ?_
 refine VFn.mk _ (sidesC_fn ad ps.length c M1) ?_
 rintro rs M2 hM2 ⟨B1, rfl, hB1⟩
 refine VCode.rangeB cxIOK rfl (sidesC_iter M2 B1 _ ps hB1 (hv.le (hM1.trans hM2))) (fun x hx => ?_) [(8, .box 1 0), (9, .box 2 0)] rfl (by kernel_rfl) (by kernel_rfl) Unit
  (fun k _ => ⟨[(8, .box 1 0), (9, .box 2 0)], [(1, some (.box 64 [.row 3])), (3, some (.row 44 2 (cutL ps A B C k).length (cellsP (cutL ps A B C k)))), (0, some (.box 188 [.v (.int .i64 A), .v (.int .i64 B), .v (.int .i64 C)])), (2, some (.box 190 [.clo 158 [] [.box 0 0, .box 1 0]]))], 4, M2, 40, ⟨fun _ => none, none, fun _ => none⟩⟩)
  (fun k _ => k ≤ ps.length) () (Nat.zero_le _) ?_ (fun k s => ⟨rfl, rfl⟩) ?_ ?_
 ·simp only [sidesL, List.mem_map] at hx
  obtain ⟨k, _, rfl⟩ := hx
  rfl
 ·refine Wk.nilBox 2 64 [] [] 44 2 rfl ?_
  refine Wk.mk' (fun i => i + 1) (by repeat' constructor) (by repeat' constructor) (by simp [injOK]) rfl rfl rfl
 ·rintro k _ args hk hxs m f
  obtain ⟨hk, rfl⟩ := sidesL_get hxs
  intro m'
  have pa := hpp _ (gp_mem hk)
  have pb : placeB (nx ps k) = true := hpp _ (nx_mem hk)
  have hlen := cutL_len ps A B C k
  have hl64 := (len_one hV).2
  refine VOwn.own ?_
  refine VCall.wk (st1 := ⟨[(8, .box 1 0), (9, .box 2 0)], [(1, some (.box 64 [.row 3])), (3, some (.row 44 2 (cutL ps A B C k).length (cellsP (cutL ps A B C k)))), (0, some (.box 188 [.v (.int .i64 A), .v (.int .i64 B), .v (.int .i64 C)])), (2, some (.box 190 [.clo 158 [] [.box 0 0, .box 1 0]]))], 4, M2, 40, ⟨m', none, f⟩⟩) (args1 := [.v (ptv (gp ps k)), .v (ptv (nx ps k)), .box 0 0, .box 1 0]) id rfl rfl (by repeat' constructor) (by repeat' constructor) (injOK_id _) rfl rfl rfl ?_
  refine Keep_call (by omega) hH pa pb ?_
  have e : cutL ps A B C k ++ keepAB A B C (gp ps k) (nx ps k) = cutL ps A B C (k + 1) := (cutL_step ps A B C k).symm
  refine ⟨(), hk, Wk.mk' id (by repeat' constructor) ⟨⟨rfl, by repeat' constructor⟩, ⟨rfl, ⟨rfl, rfl, ?_, ?_⟩⟩, ⟨rfl, by repeat' constructor⟩, ⟨rfl, by repeat' constructor⟩, trivial⟩ (injOK_id _) rfl rfl rfl⟩
  ·rw [e]
  ·rw [e]
 ·rintro _ m _
  have er : cutL ps A B C (sidesL ps).length = cutA ps A B C := by unfold cutA; rw [show (sidesL ps).length = ps.length by simp [sidesL]]
  refine VOwn.frz ?_
  refine VFz.mk fun x Bx M3 hM3 hx => ?_
  have hx : Pts M3 x (cutL ps A B C (sidesL ps).length) := hx
  rw [er] at hx
  refine VFn.mk _ (aroundC_fn x _ M3 hx (cut_place hV A B C)) ?_
  rintro rs M4 hM4 ⟨u, rfl, hu⟩
  exact VFact.mk ⟨u, rfl, hu⟩ trivial
end Go.Proofs.YtcdlplobniogpaaGreat
namespace Go.Proofs.YtcdlplobniogpaaGreat
open Go Go.V Go.RowKit
theorem three_reg {M : Mem} {x u v w : Value} {ps qs rs : List Pt} (h : SlAt M 1 x 3 [u, v, w]) (hu : Pts M u ps) (hv : Pts M v qs) (hw : Pts M w rs) (iu : i64P ps) (iv : i64P qs) (iw : i64P rs) : RegV M x [ps, qs, rs] :=
 ⟨[[u], [v], [w]], rfl, by simp, h, fun i y r hy hr => by
  rcases i with _ | _ | _ | i
  ·simp at hy hr; subst hy; subst hr; exact ⟨u, rfl, hu, iu⟩
  ·simp at hy hr; subst hy; subst hr; exact ⟨v, rfl, hv, iv⟩
  ·simp at hy hr; subst hy; subst hr; exact ⟨w, rfl, hw, iw⟩
  ·simp at hy⟩
theorem concatC_enters : Enters Tryz.prog 143 := Go.Proofs.enters_of Tryz.func143 rfl rfl
theorem FnRow.mono' {P : Program} {f : Nat} {args : List Value} {M : Mem} {E sz : Nat} {R R' : Nat → List Value → Mem → Prop} (h : FnRow P f args M E sz R) (hr : ∀ n xs M', R n xs M' → R' n xs M') : FnRow P f args M E sz R' :=
 ⟨h.1, fun W hW => (h.2 W hW).mono fun _ _ ⟨v, n, xs, M', k0, k1, k2, k3, k4, k5, k6, k7, k8⟩ => ⟨v, n, xs, M', k0, k1, k2, k3, k4, k5, k6, k7, hr _ _ _ k8⟩⟩
open Go.Shelf in
theorem GrowNil_fn (M : Mem) : FnP Tryz.prog 175 [.slice none 0 0, .int .i64 0] M [.slice none 0 0] :=
 ⟨enters_of Tryz.func175 (by kernel_rfl) rfl, fun W hW => (Any8.slices_Grow_room grLay none 0 0 0 W (Nat.le_refl _) (by omega) (by omega) (Nat.le_refl _)).mono fun e W' ⟨h1, h2⟩ =>
  ⟨[.slice none 0 0], M, h1, by rw [h2]; exact Below.refl _ _, Mem.le_refl _, by rw [h2]; exact hW, fun _ _ => rfl, rfl, rfl⟩⟩
set_option maxRecDepth 20000 in
set_option maxHeartbeats 2000000 in
theorem Concat0_fn (v : Value) (ls : List (List Pt)) (M : Mem) (hv : RegV M v ls) (h0 : ls.flatten = []) :
  V.Fn Tryz.prog 143 [v] M fun rs M' => ∃ u, rs = [u] ∧ Pts M' u [] := by
 obtain ⟨ad, c, rfl, hm, hrd⟩ := hv.get
 have hgd : ∀ i, i < ls.length → ls.getD i [] = [] := fun i hi => by
  have hm : ls.getD i [] ∈ ls := by simp [List.getD_eq_getElem?_getD, List.getElem?_eq_getElem hi]
  exact List.flatten_eq_nil_iff.1 h0 _ hm
 refine Fn.of_vc cxOK Tryz.func143 rfl rfl rfl ?_
 refine VCode.loop cxOK Nat (fun i => ⟨[(0, .v (.slice ad ls.length c)), (3, .v (.int .i64 0)), (9, .v (.slice ad ls.length c)), (10, .v (.int .i64 ls.length)), (11, .v (.int .i64 i))], [], 0, M, 36, ⟨fun _ => none, none, fun _ => none⟩⟩)
  (fun i => i ≤ ls.length) (fun i => ls.length - i) 0 (Nat.zero_le _) (Wk.mk' id (by repeat' constructor) (by repeat' constructor) (injOK_id _) rfl rfl rfl) ?_
 intro i hi m
 refine VIf.mk (fun hlt => ?_) (fun hge => ?_)
 ·have hlt : i < ls.length := lt_of_dec hlt
  obtain ⟨ad', w, ead, hw, hw64, hc⟩ := hrd M (Mem.le_refl _) i hlt
  obtain ⟨wd, wc, rfl⟩ := hw.shape
  have hg := hgd i hlt
  have hg' : (ls.getD i []).length = 0 := by rw [hg]; rfl
  refine VIdx.mk ad' i ead rfl hlt ?_
  refine VRead.mk _ hc ?_
  refine VArith.ok (by simp only [hg']; omega) (by simp only [hg']; omega) ?_
  repeat (first | refine VIf.tt ?_ | refine VIf.ff ?_)
  refine VArith.ok (by first | omega | (simp only; omega)) (by first | omega | (simp only; omega)) ?_
  have ez : (0 : Int) + (((ls.getD i []).length : Nat) : Int) = 0 := by rw [hg']; rfl
  refine ⟨i + 1, hlt, by omega, ?_⟩
  refine Wk.mk' id ⟨⟨rfl, rfl⟩, ⟨?_, rfl⟩, ⟨rfl, rfl⟩, ⟨rfl, rfl⟩, ⟨rfl, rfl⟩, trivial⟩ trivial (injOK_id _) rfl rfl rfl
  exact congrArg (fun n => some (SV.v (.int .i64 n))) ez
 have : i = ls.length := by have := ge_of_dec hge; omega
 subst this
 refine VFn.p (GrowNil_fn M) ?_
 refine VCode.loop cxOK Nat (fun i => ⟨[(0, .v (.slice ad ls.length c)), (6, .row 0), (25, .v (.slice ad ls.length c)), (26, .v (.int .i64 ls.length)), (27, .v (.int .i64 i))], [(0, some (.row 44 2 0 []))], 1, M, 36, ⟨fun _ => none, none, fun _ => none⟩⟩)
  (fun i => i ≤ ls.length) (fun i => ls.length - i) 0 (Nat.zero_le _) ?_ ?_
 ·exact Wk.nil 6 44 2 rfl (Wk.mk' id (by repeat' constructor) (by repeat' constructor) (injOK_id _) rfl rfl rfl)
 intro i hi m
 refine VIf.mk (fun hlt => ?_) (fun hge => ?_)
 ·have hlt : i < ls.length := lt_of_dec hlt
  obtain ⟨ad', w, ead, hw, hw64, hc⟩ := hrd M (Mem.le_refl _) i hlt
  obtain ⟨wd, wc, rfl⟩ := hw.shape
  have hg := hgd i hlt
  have hg' : (ls.getD i []).length = 0 := by rw [hg]; rfl
  refine VIdx.mk ad' i ead rfl hlt ?_
  refine VRead.mk _ hc ?_
  refine VSl.mk (ls.getD i []).length (cellsP (ls.getD i [])) hw ?_
  refine VFact.mk (by show (0 + (ls.getD i []).length) * 16 ≤ _; omega) ?_
  refine VArith.ok (by first | omega | (simp only; omega)) (by first | omega | (simp only; omega)) ?_
  refine ⟨i + 1, hlt, (by first | omega | (simp only; omega)), Wk.mk' (fun k => if k = 0 then 1 else k) (by repeat' constructor) ⟨⟨rfl, ⟨rfl, rfl, ?_, ?_⟩⟩, trivial⟩ (by simp [injOK]) rfl rfl rfl⟩
  ·rw [hg']
  ·rw [hg]; rfl
 ·refine VFz.mk fun u B M1 hM1 hu => ?_
  exact VFact.mk ⟨u, rfl, hu⟩ trivial
set_option maxRecDepth 20000 in
set_option maxHeartbeats 2000000 in
theorem shared_fn (v w : Value) (ps qs : List Pt) (M : Mem) (hv : Pts M v ps) (hw : Pts M w qs) (hp : validB ps = true) (hq : validB qs = true) :
  V.Fn Tryz.prog 100 [v, w] M fun rs M' => ∃ u, rs = [u] ∧ Pts M' u (sharA ps qs) := by
 have hlp := (len_one hp).2
 have hlq := (len_one hq).2
 have hpp := valid_mem hp
 have hqq := valid_mem hq
 refine Fn.of_vc cxIOK Tryz.func100 rfl rfl rfl ?_
 refine VOwn.frz ?_
 refine VFn.mk _ (cornersC_fn v w ps qs M hv hw hq hpp (by omega)) ?_
 rintro rs M1 hM1 ⟨u1, rfl, h1⟩
 refine VOwn.frz ?_
 refine VFn.mk _ (cornersC_fn w v qs ps M1 (hw.le hM1) (hv.le hM1) hp hqq (by omega)) ?_
 rintro rs M2 hM2 ⟨u2, rfl, h2⟩
 refine VOwn.frz ?_
 refine VFn.mk _ (crossings_fn v w ps qs M2 (hv.le (hM1.trans hM2)) (hw.le (hM1.trans hM2)) hp hq) ?_
 rintro rs M3 hM3 ⟨u3, rfl, h3⟩
 obtain ⟨d1, k1, rfl⟩ := h1.shape
 obtain ⟨d2, k2, rfl⟩ := h2.shape
 obtain ⟨d3, k3, rfl⟩ := h3.shape
 have i1 : i64P (cornA ps qs) := mem_64 fun x hx => hpp x (mem_cornA.1 hx).1
 have i2 : i64P (cornA qs ps) := mem_64 fun x hx => hqq x (mem_cornA.1 hx).1
 have i3 : i64P (crosA ps qs) := mem_64 fun x hx => shar_place hp x (mem_sharA.2 (.inr (.inr hx)))
 have efl : [cornA ps qs, cornA qs ps, crosA ps qs].flatten = sharA ps qs := by unfold sharA; simp
 have hlen : (sharA ps qs).length ≤ 100000 := by
  have h1 := List.length_filter_le (hasB qs) ps
  have h2 := List.length_filter_le (hasB ps) qs
  have h3 := crosX_len ps qs hlq ps.length
  unfold sharA cornA crosA
  simp only [List.length_append]
  omega
 by_cases hE : sharA ps qs = []
 ·refine VOwn.frz ?_
  refine VFz.mk fun x Bx M4 hM4 hx => ?_
  refine VFn.mk _ (Concat0_fn x _ M4 (three_reg hx (h1.le (hM2.trans (hM3.trans hM4))) (h2.le (hM3.trans hM4)) (h3.le hM4) i1 i2 i3) (by rw [efl]; exact hE)) ?_
  rintro rs M5 hM5 ⟨u, rfl, hu⟩
  exact VFact.mk ⟨u, rfl, by rw [hE]; exact hu⟩ trivial
 ·have hpos := ne_len hE
  refine VOwn.own ?_
  refine VCall.ofRow1 rfl concatC_enters (R := fun n xs _ => n = (sharA ps qs).length ∧ xs = cellsP (sharA ps qs)) (fun x M4 hM4 hx => FnRow.mono' (Concat_fn x _ M4 (three_reg hx (h1.le (hM2.trans (hM3.trans hM4))) (h2.le (hM3.trans hM4)) (h3.le hM4) i1 i2 i3) (by rw [efl]; omega) (by rw [efl]; omega)) fun k xs M' h => ?_) ?_
  ·rw [efl] at h; exact ⟨h.1, h.2.1⟩
  rintro k xs M4 hM4 ⟨rfl, rfl⟩
  refine VFz.mk fun u B M5 hM5 hu => ?_
  exact VFact.mk ⟨u, rfl, hu⟩ trivial
theorem Meet_fn (v w : Value) (ps qs : List Pt) (M : Mem) (hv : Pts M v ps) (hw : Pts M w qs) (hp64 : i64P ps) (hq64 : i64P qs) :
  V.Fn Tryz.prog 60 [v, w] M fun rs M' => if (validB ps && validB qs) = true then ∃ u, rs = [u, .bool (decide (0 < (sharA ps qs).length)), .int .i64 0] ∧ Pts M' u (arC (sharA ps qs)) else rs = [.slice none 0 0, .bool false, .int .i64 1] := by
 refine Fn.of_vc cxOK Tryz.func60 rfl rfl rfl ?_
 refine VFn.mk _ (Valid_fn v ps M hv hp64) ?_
 rintro rs M1 hM1 rfl
 refine VIf.mk (fun h => ?_) (fun h => ?_)
 ·repeat (first | refine VIf.tt ?_ | refine VIf.ff ?_)
  refine VFact.mk ?_ trivial
  rw [(Bool.not_eq_true' _).mp h]; rfl
 have hp := (Bool.not_eq_false' _).mp h
 repeat (first | refine VIf.tt ?_ | refine VIf.ff ?_)
 refine VFn.mk _ (Valid_fn w qs M1 (hw.le hM1) hq64) ?_
 rintro rs M2 hM2 rfl
 repeat (first | refine VIf.tt ?_ | refine VIf.ff ?_)
 refine VIf.mk (fun h => ?_) (fun h => ?_)
 ·refine VFact.mk ?_ trivial
  rw [(Bool.not_eq_true' _).mp h, Bool.and_false]; rfl
 have hq := (Bool.not_eq_false' _).mp h
 rw [hp, hq]
 have m2 := hM1.trans hM2
 refine VFn.mk _ (shared_fn v w ps qs M2 (hv.le m2) (hw.le m2) hp hq) ?_
 rintro rs M3 hM3 ⟨u, rfl, hu⟩
 refine VFn.mk _ (aroundC_fn u _ M3 hu (shar_place hp)) ?_
 rintro rs M4 hM4 ⟨x, rfl, hx⟩
 exact VFact.mk ⟨x, rfl, hx⟩ trivial
end Go.Proofs.YtcdlplobniogpaaGreat
namespace Go.Proofs.YtcdlplobniogpaaGreat
open Go Go.V Go.RowKit
end Go.Proofs.YtcdlplobniogpaaGreat
namespace Go.Proofs.YtcdlplobniogpaaGreat
open Go Go.V Go.RowKit
theorem Cut_is {v : Value} {ps q : List Pt} {A B C : Int} {b : Bool} {M : Mem} (hv : Pts M v ps) (h64 : i64P ps) (hV : validB ps = true) (hH : halfB A B C = true) (hq : arC (cutA ps A B C) = q) (hb : decide (0 < (cutA ps A B C).length) = b) :
  V.Fn Tryz.prog 120 [v, .agg #[.int .i64 A, .int .i64 B, .int .i64 C]] M fun rs M' => ∃ u, rs = [u, .bool b, .int .i64 0] ∧ Pts M' u q :=
 (Cut_fn v ps A B C M hv h64).mono fun rs M' _ h => by
  rw [hV, hH, if_pos (by rfl), hq, hb] at h; exact h
theorem Meet_is {v w : Value} {ps qs q : List Pt} {b : Bool} {M : Mem} (hv : Pts M v ps) (hw : Pts M w qs) (hp : validB ps = true) (hq : validB qs = true) (hr : arC (sharA ps qs) = q) (hb : decide (0 < (sharA ps qs).length) = b) :
  V.Fn Tryz.prog 60 [v, w] M fun rs M' => ∃ u, rs = [u, .bool b, .int .i64 0] ∧ Pts M' u q :=
 (Meet_fn v w ps qs M hv hw (mem_64 (valid_mem hp)) (mem_64 (valid_mem hq))).mono fun rs M' _ h => by
  rw [hp, hq, if_pos (by rfl), hr, hb] at h; exact h
theorem arC_eq {l p : List Pt} (hne : l ≠ []) (hl : l.length ≤ 4000) (hv : validB p = true) (h1 : ∀ y ∈ l, hasB p y = true) (h2 : ∀ y ∈ p, y ∈ l) : arC l = p := by
 have hh : Hl l p := hl_of_has hv h1 h2
 unfold arC
 rw [if_neg hne, around_eq hh, if_pos ⟨hl, (len_one hv).2⟩]
end Go.Proofs.YtcdlplobniogpaaGreat
namespace Go.Proofs.YtcdlplobniogpaaGreat
open Go Go.V Go.RowKit
def optL (l : List Pt) : List (List Pt) := if l = [] then [] else [arC l]
def leftL (l : List (List Pt)) (A B C : Int) : List (List Pt) := l.flatMap fun p => optL (cutA p A B C)
def midL (p : List Pt) (lo hi : Pt) : List (List Pt) := leftL (leftL [p] (-1) 0 (-lo.1)) 1 0 hi.1
def outP (lo hi : Pt) (p : List Pt) : List (List Pt) := leftL [p] 1 0 (lo.1 - 1) ++ (leftL [p] (-1) 0 (-(hi.1 + 1)) ++ (leftL (midL p lo hi) 0 1 (lo.2 - 1) ++ leftL (midL p lo hi) 0 (-1) (-(hi.2 + 1))))
def withoutB (r : List (List Pt)) (lo hi : Pt) : List (List Pt) := tidyB (r.flatMap (outP lo hi))
theorem optL_len (l : List Pt) : (optL l).length ≤ 1 := by unfold optL; split <;> simp
theorem optL_valid {l : List Pt} (hP : ∀ x ∈ l, placeB x = true) : ∀ p ∈ optL l, validB p = true := fun p hp => by
 unfold optL at hp
 split at hp
 ·cases hp
 ·rename_i hn
  rw [List.mem_singleton.1 hp]
  exact arC_valid hn hP
theorem leftL_one (p : List Pt) (A B C : Int) : leftL [p] A B C = optL (cutA p A B C) := by unfold leftL; simp
theorem leftL_nil (A B C : Int) : leftL [] A B C = [] := rfl
theorem leftL_valid {l : List (List Pt)} (hV : ∀ p ∈ l, validB p = true) (A B C : Int) : ∀ p ∈ leftL l A B C, validB p = true := fun p hp => by
 obtain ⟨q, hq, hp⟩ := List.mem_flatMap.1 hp
 exact optL_valid (cut_place (hV q hq) A B C) p hp
theorem leftL_len (l : List (List Pt)) (A B C : Int) : (leftL l A B C).length ≤ l.length := by
 unfold leftL
 induction l with
 | nil => exact Nat.le_refl _
 | cons p l ih =>
  rw [List.flatMap_cons, List.length_append, List.length_cons]
  have := optL_len (cutA p A B C)
  omega
theorem outP_valid {p : List Pt} (hV : validB p = true) (lo hi : Pt) : ∀ q ∈ outP lo hi p, validB q = true := by
 have h1 : ∀ q ∈ [p], validB q = true := fun q hq => by rw [List.mem_singleton.1 hq]; exact hV
 intro q hq
 unfold outP at hq
 rcases List.mem_append.1 hq with hq | hq
 ·exact leftL_valid h1 _ _ _ q hq
 rcases List.mem_append.1 hq with hq | hq
 ·exact leftL_valid h1 _ _ _ q hq
 have hm : ∀ q ∈ midL p lo hi, validB q = true := leftL_valid (leftL_valid h1 _ _ _) _ _ _
 rcases List.mem_append.1 hq with hq | hq
 ·exact leftL_valid hm _ _ _ q hq
 ·exact leftL_valid hm _ _ _ q hq
theorem outP_len (p : List Pt) (lo hi : Pt) : (outP lo hi p).length ≤ 4 := by
 unfold outP
 have a := leftL_len [p] 1 0 (lo.1 - 1)
 have b := leftL_len [p] (-1) 0 (-(hi.1 + 1))
 have c := leftL_len [p] (-1) 0 (-lo.1)
 have d := leftL_len (leftL [p] (-1) 0 (-lo.1)) 1 0 hi.1
 have e := leftL_len (midL p lo hi) 0 1 (lo.2 - 1)
 have f := leftL_len (midL p lo hi) 0 (-1) (-(hi.2 + 1))
 simp only [List.length_append, List.length_cons, List.length_nil] at *
 unfold midL at *
 omega
theorem flatMap_len {α β : Type} (g : α → List β) (k : Nat) (h : ∀ x, (g x).length ≤ k) : ∀ l : List α, (l.flatMap g).length ≤ k * l.length
 | [] => by simp
 | x :: l => by
  have := flatMap_len g k h l
  have := h x
  rw [List.flatMap_cons, List.length_append, List.length_cons, Nat.mul_succ]; omega
theorem flatR_take {α β : Type} (d : α) (g : α → List β) (l : List α) {i : Nat} (hi : i < l.length) : (l.take (i + 1)).flatMap g = (l.take i).flatMap g ++ g (l.getD i d) := by
 have : l[i]? = some (l.getD i d) := by simp [hi]
 rw [List.take_add_one, this, List.flatMap_append]
 simp
def addL (b : Bool) (xs : List Value) (u : Value) : List Value := if b = true then xs ++ [u] else xs
theorem addL_len (b : Bool) (xs : List Value) (u : Value) : (addL b xs u).length ≤ xs.length + 1 := by unfold addL; split <;> simp
theorem add_pls {M : Mem} {xs : List Value} {qs : List (List Pt)} {u : Value} {l : List Pt} (h : PlsV M xs qs) (hu : Pts M u (arC l)) (hP : ∀ x ∈ l, placeB x = true) : PlsV M (addL (decide (0 < l.length)) xs u) (qs ++ optL l) := by
 unfold addL optL
 by_cases e : l = []
 ·subst e
  simpa using h
 ·have := ne_len e
  rw [decide_eq_true (show 0 < l.length by omega), if_pos rfl, if_neg e]
  exact h.snoc hu (valid_64 (arC_valid e hP))
set_option maxHeartbeats 2000000 in
theorem add_call0 {a b c d n m : Int} {w u s : Value} {md : Bool} {k : Nat} {xs : List Value} {M : Mem} {G : Gh} {K : SV → St → Prop} {ua : Option Addr} {un uc : Nat} (hu : u = .slice ua un uc) (hk : k = xs.length) (hl : xs.length ≤ 100000)
  (hK : K (.v (.tuple #[])) ⟨[(4, .box 0 0), (5, .box 1 0), (8, .box 2 0), (10, .v w), (43, .v s), (44, .v (.int .i64 n)), (45, .v (.int .i64 m))], [(0, some (.box 44 [.v (.int .i64 a), .v (.int .i64 b)])), (1, some (.box 44 [.v (.int .i64 c), .v (.int .i64 d)])), (2, some (.box 121 [.row 3])), (3, some (.row 64 1 (addL md xs u).length (addL md xs u)))], 4, M, 119, G⟩) :
  VCall Tryz.prog 119 [.box 2 0, .v u, .v (.bool md), .v (.int .i64 0)] ⟨[(4, .box 0 0), (5, .box 1 0), (8, .box 2 0), (10, .v w), (43, .v s), (44, .v (.int .i64 n)), (45, .v (.int .i64 m))], [(0, some (.box 44 [.v (.int .i64 a), .v (.int .i64 b)])), (1, some (.box 44 [.v (.int .i64 c), .v (.int .i64 d)])), (2, some (.box 121 [.row 3])), (3, some (.row 64 1 k xs))], 4, M, 119, G⟩ K := by
 subst hu; subst hk
 refine VCall.post ?_
 refine VCall.inline cxOK Tryz.func119 rfl rfl rfl [(4, .box 0 0), (5, .box 1 0), (8, .box 2 0)] [(10, w), (43, s), (44, .int .i64 n), (45, .int .i64 m)] (by repeat' constructor) (by repeat' constructor) ?_
 intro val f0
 refine VIf.mk (fun h => ?_) (fun h => ?_)
 ·subst h
  have hb : (xs.length + 1) * 24 ≤ 140737488355328 := by omega
  repeat (first | refine VIf.tt ?_ | refine VIf.ff ?_)
  refine VFact.mk hb ?_
  refine VFact.mk (fun _ _ h => h) ?_
  refine VFact.mk (fun _ => rfl) ?_
  repeat refine VFact.mk rfl ?_
  refine ⟨.v (.tuple #[]), _, ?_, hK⟩
  refine ⟨⟨fun i => if i = 3 then 8 else i, rfl, rfl, ?_, ?_, ?_⟩, rfl, rfl, rfl⟩
  ·repeat' constructor
  ·refine ⟨⟨rfl, by repeat' constructor⟩, ⟨rfl, by repeat' constructor⟩, ⟨rfl, by repeat' constructor⟩, ⟨rfl, ⟨rfl, rfl, ?_, rfl⟩⟩, trivial⟩
   exact List.length_append
  ·exact injOK_b rfl
 ·subst h
  repeat (first | refine VIf.tt ?_ | refine VIf.ff ?_)
  refine VFact.mk (fun _ _ h => h) ?_
  refine VFact.mk (fun _ => rfl) ?_
  repeat refine VFact.mk rfl ?_
  refine ⟨.v (.tuple #[]), _, ?_, hK⟩
  refine ⟨⟨fun i => i, rfl, rfl, ?_, ?_, ?_⟩, rfl, rfl, rfl⟩
  ·repeat' constructor
  ·repeat' constructor
  ·exact injOK_b rfl
set_option maxHeartbeats 2000000 in
theorem add_call1 {a b c d n m : Int} {w u s : Value} {md : Bool} {k : Nat} {xs : List Value} {M : Mem} {G : Gh} {K : SV → St → Prop} {ua : Option Addr} {un uc : Nat} (hu : u = .slice ua un uc) (hk : k = xs.length) (hl : xs.length ≤ 100000)
  (hK : K (.v (.tuple #[])) ⟨[(4, .box 0 0), (5, .box 1 0), (8, .box 2 0), (14, .v w), (43, .v s), (44, .v (.int .i64 n)), (45, .v (.int .i64 m))], [(0, some (.box 44 [.v (.int .i64 a), .v (.int .i64 b)])), (1, some (.box 44 [.v (.int .i64 c), .v (.int .i64 d)])), (2, some (.box 121 [.row 3])), (3, some (.row 64 1 (addL md xs u).length (addL md xs u)))], 4, M, 119, G⟩) :
  VCall Tryz.prog 119 [.box 2 0, .v u, .v (.bool md), .v (.int .i64 0)] ⟨[(4, .box 0 0), (5, .box 1 0), (8, .box 2 0), (14, .v w), (43, .v s), (44, .v (.int .i64 n)), (45, .v (.int .i64 m))], [(0, some (.box 44 [.v (.int .i64 a), .v (.int .i64 b)])), (1, some (.box 44 [.v (.int .i64 c), .v (.int .i64 d)])), (2, some (.box 121 [.row 3])), (3, some (.row 64 1 k xs))], 4, M, 119, G⟩ K := by
 subst hu; subst hk
 refine VCall.post ?_
 refine VCall.inline cxOK Tryz.func119 rfl rfl rfl [(4, .box 0 0), (5, .box 1 0), (8, .box 2 0)] [(14, w), (43, s), (44, .int .i64 n), (45, .int .i64 m)] (by repeat' constructor) (by repeat' constructor) ?_
 intro val f0
 refine VIf.mk (fun h => ?_) (fun h => ?_)
 ·subst h
  have hb : (xs.length + 1) * 24 ≤ 140737488355328 := by omega
  repeat (first | refine VIf.tt ?_ | refine VIf.ff ?_)
  refine VFact.mk hb ?_
  refine VFact.mk (fun _ _ h => h) ?_
  refine VFact.mk (fun _ => rfl) ?_
  repeat refine VFact.mk rfl ?_
  refine ⟨.v (.tuple #[]), _, ?_, hK⟩
  refine ⟨⟨fun i => if i = 3 then 8 else i, rfl, rfl, ?_, ?_, ?_⟩, rfl, rfl, rfl⟩
  ·repeat' constructor
  ·refine ⟨⟨rfl, by repeat' constructor⟩, ⟨rfl, by repeat' constructor⟩, ⟨rfl, by repeat' constructor⟩, ⟨rfl, ⟨rfl, rfl, ?_, rfl⟩⟩, trivial⟩
   exact List.length_append
  ·exact injOK_b rfl
 ·subst h
  repeat (first | refine VIf.tt ?_ | refine VIf.ff ?_)
  refine VFact.mk (fun _ _ h => h) ?_
  refine VFact.mk (fun _ => rfl) ?_
  repeat refine VFact.mk rfl ?_
  refine ⟨.v (.tuple #[]), _, ?_, hK⟩
  refine ⟨⟨fun i => i, rfl, rfl, ?_, ?_, ?_⟩, rfl, rfl, rfl⟩
  ·repeat' constructor
  ·repeat' constructor
  ·exact injOK_b rfl
def outOK (r : List (List Pt)) (lo hi : Pt) : Bool := regionB r && (placeB lo && (placeB hi && (decide (lo.1 ≤ hi.1) && decide (lo.2 ≤ hi.2))))
theorem half_x (C : Int) (h : -1000000 ≤ C ∧ C ≤ 1000000) : halfB 1 0 C = true ∧ halfB (-1) 0 C = true ∧ halfB 0 1 C = true ∧ halfB 0 (-1) C = true := by
 simp only [halfB, Bool.and_eq_true, Bool.not_eq_true', Bool.and_eq_false_iff, decide_eq_true_eq, decide_eq_false_iff_not]
 omega
end Go.Proofs.YtcdlplobniogpaaGreat
namespace Go.V
open Go Go.RowKit
variable {P : Program}
theorem VCall.pl {f : Nat} {args : List SV} {st : St} {K : SV → St → Prop} (pls : List (Nat × Value)) (hs : subSl st (plSl pls))
  (h : VCall P f args ⟨[], st.ow, st.nx, st.M, st.nt, st.G⟩ fun s st' => K s ⟨plSl pls, st'.ow, st'.nx, st'.M, st'.nt, st'.G⟩) : VCall P f args st K := by
 refine ⟨h.ent, fun n₀ w M₀ ρ W hS hsa hss => ?_⟩
 refine (h.run n₀ w M₀ ρ W (hS.same rfl rfl rfl rfl) hsa (fun d s hd => by cases hd)).mono ?_
 rintro e W' ⟨s, st', ρ', rfl, h1, h2, h3, h4, h5, h6⟩
 refine ⟨s, ⟨plSl pls, st'.ow, st'.nx, st'.M, st'.nt, st'.G⟩, ρ', rfl, h1, h2.same rfl rfl rfl rfl, fun d s' hd => ?_, h4, h5, h6⟩
 obtain ⟨x, rfl⟩ := plSl_mem (look_mem hd)
 exact ⟨trivial, _, subSl_mem hs (look_mem hd), rfl⟩
theorem VCall.frzR {f : Nat} {args : List SV} {st : St} {K : SV → St → Prop}
  (h : VCall P f args st fun s st' => ∃ id E sz n xs, s = .row id ∧ st'.own id = some (.row E sz n xs) ∧ st'.sl = [] ∧ ∀ x M', st'.M.le M' → SlAt M' sz x n xs → K (.v x) ⟨[], (id, none) :: st'.ow, st'.nx, M', st'.nt, st'.G⟩) : VCall P f args st K := by
 refine ⟨h.ent, fun n₀ w M₀ ρ W hS hsa hss => ?_⟩
 refine (h.run n₀ w M₀ ρ W hS hsa hss).mono ?_
 rintro e W' ⟨s, st', ρ', rfl, h1, h2, h3, h4, h5, id, E, sz, n, xs, rfl, hid, hsl, h6⟩
 obtain ⟨M', l1, s1, hS1⟩ := h2.frzRow hid
 exact ⟨.v (slOf (ρ' id)), ⟨[], (id, none) :: st'.ow, st'.nx, M', st'.nt, st'.G⟩, ρ', rfl, trivial, hS1.same rfl rfl rfl rfl, fun d s' hd => (by cases hd), h4, h5, h6 _ M' l1 s1⟩
def St.dK (st : St) (k : List (Nat × SV) → List (Nat × Option OE) → Nat → Mem → Nat → Gh → Prop) : Prop := match st with
 | ⟨sl, ow, nx, M, nt, G⟩ => k sl ow nx M nt G
theorem dK_iff {st : St} {k : List (Nat × SV) → List (Nat × Option OE) → Nat → Mem → Nat → Gh → Prop} (h : st.dK k) : k st.sl st.ow st.nx st.M st.nt st.G := by cases st; exact h
end Go.V
namespace Go.V
open Go Go.RowKit
variable {P : Program}
end Go.V
namespace Go.V
open Go Go.RowKit
variable {P : Program}
end Go.V
namespace Go.V
open Go Go.RowKit
variable {P : Program}
theorem VCode.of_vc {C : VX} (hC : VXOK P C) {c : Code} {st : St} {Q : Ex → St → Prop} (h : vc C P c st Q) : VCode P c st Q :=
 ⟨fun _ _ _ _ _ _ _ _ _ hY hr hκ hs hw hkp => vc_sound hC hY c h hr hκ hs hw hkp⟩
theorem Fn.of_vcode {C : VX} (hC : VXOK P C) {f : Nat} {fn : Func} {c : Code} (hf : P.funcs[f]? = some fn) (hb : fn.body = some c) (hname : (fn.name == "runtime.NumGoroutine") = false)
  {args : List Value} (hnt : Nat.ble args.length fn.ntmps = true) {M : Mem} {R : List Value → Mem → Prop} (h : VCode P c (st0 args M fn.ntmps none) (fin C fn R)) : Fn P f args M R := by
 refine ⟨Go.Proofs.enters_of hf hname hb, fun W hW => ?_⟩
 refine (callsIn_wide (n := 100)).1 (callsIn_of_wp_marks hf hb trivial ?_ rfl)
 have hle := Nat.le_of_ble_eq_true hnt
 have hs0 : Sat W.heap.size W M (fun _ => undef) (st0 args M fn.ntmps none) { tmps := args.toArray ++ Array.replicate (fn.ntmps - args.toArray.size) undef, defers := [] } W := by
  refine ⟨⟨Below.refl _ _, Nat.le_refl _, hW, ?_, ?_, ?_, ?_, fun _ _ => rfl, fun b o hb => by cases hb⟩, by simp [st0]; omega, ?_, trivial⟩
  ·intro id e he; simp [St.own, st0, look] at he
  ·intro i j ei ej hi; simp [St.own, st0, look] at hi
  ·intro i e b hi; simp [St.own, st0, look] at hi
  ·intro b o hb; cases hb
  ·intro d s hd
   obtain ⟨h1, h2, v, h3, rfl⟩ := argSlots_look args 0 d s hd
   refine ⟨by simp [st0]; omega, trivial, ?_⟩
   simp only [Nat.sub_zero] at h3
   rw [Array.getElem?_append_left (by simp; omega)]
   simp only [SV.den, List.getElem?_toArray]
   exact h3
 have := h.run none 100 (fun Y B => Y = none ∧ B = ⟨W.heap.size, W, M⟩) ⟨W.heap.size, W, M⟩ _ _ W (fun _ => False) #[] (fun l tag args rest B M W hκ => by cases hκ.1) (fun l hl => by cases hl) ⟨rfl, rfl⟩ hs0 (wr_false c) (fun d hd => hd.elim)
 refine wpIn_mono this ?_
 rintro e a' W' ⟨⟨ex, he, B, ρ, st, ⟨_, rfl⟩, h1, h2, h3⟩, _⟩
 have main : (e = .normal ∨ e = .ret) → ex ≠ .exit 0 ∧ True → LeavesInM (Fw none) 100 P fn a'.tmps (fun e W'' => ∃ rs M', e = .returned (ret rs) ∧ Below W.heap.size W W'' ∧ M.le M' ∧ M'.ok W'' ∧ (∀ b, b < W.heap.size → M' b = M b) ∧ R rs M') a'.defers .returning W' := by
  intro hcase _
  have h3' : (match resSV C st fn.results.toList with
   | some rs => frzAll true (fun st rs => match vals rs with
     | some vs => st.withM fun M => VFact (R vs M) True
     | none => VStuck 171) 12 st rs
   | none => VStuck 172) := by
   rcases hcase with rfl | rfl <;> cases he <;> exact h3
  split at h3'
  ·rename_i rs hrs
   have hsl : ∀ d s, look st.sl d = some s → s.sc st.nx ∧ a'.tmps[d]? = some (s.den ρ) := fun d s hd => ⟨(h1.sl d s hd).2.1, (h1.sl d s hd).2.2⟩
   have hres := fun (G : Gh) (W'' : World) (hS : SatH W.heap.size W M ρ { st with G := G } W'') => results_run (tmps := a'.tmps) (st := { st with G := G }) hC hS hsl fn.results.toList (r := rs) (by rw [resSV_G]; exact hrs)
   obtain ⟨st', rs', g1, g2, g3, g4, g5⟩ := frzAll_sound 12 h1 (hres st.G W' h1.h).2 h3'
   split at g5
   ·rename_i vs hvs
    obtain ⟨hR, _⟩ := withM_iff g5
    refine leaves_of a'.defers h1.h g1.h g4 (fun b => by rw [h2.2]; rfl) h1.marks ?_
    intro G W'' s1 s2
    refine ⟨ret vs, ?_, vs, st'.M, rfl, s2.below, ?_, s2.mem, s2.mlow, hR⟩
    ·have hr := (hres G W'' s1).1
     rw [← g2, vals_den hvs] at hr
     exact results_ret fn a'.tmps P vs W'' hr
    ·intro b o hb
     have hlt := (Array.getElem?_eq_some_iff.1 (hW b o hb)).1
     rw [s2.mlow b hlt]; exact hb
   ·cases g5
  ·cases h3'
 cases e with
 | normal => exact main (.inl rfl) ⟨by cases he; simp, trivial⟩
 | ret => exact main (.inr rfl) ⟨by cases he; simp, trivial⟩
 | exit i => cases he; cases h3
 | goto => cases he
 | panic => cases he
 | outgrown => cases he
end Go.V
