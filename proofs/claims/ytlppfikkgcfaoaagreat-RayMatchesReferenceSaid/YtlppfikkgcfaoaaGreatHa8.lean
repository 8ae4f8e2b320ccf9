import Derived.Test.YtlppfikkgcfaoaaGreatHa7
import Derived.Shelf.Spec.SlicesGrow
set_option linter.unusedVariables false
set_option linter.unusedSimpArgs false
/- The verification-condition framework, part U: contracts of functions that hand back a growing slice. -/
namespace Go.V
open Go Go.RowKit
variable {P : Program}
/-- A contract: what is handed back is a new slice, the caller's own. -/
def FnRow (P : Program) (f : Nat) (args : List Value) (M : Mem) (E sz : Nat) (R : Nat → List Value → Mem → Prop) : Prop :=
  Enters P f ∧ ∀ W, M.ok W → Calls P f args.toArray W fun e W' => ∃ v n xs M', e = .returned v ∧ W'.ownsRow W.heap.size E sz v n xs ∧ (∀ x ∈ xs, x.oneCell' = true) ∧ (∀ b, ob v = some b → M' b = none) ∧
    Below W.heap.size W W' ∧ M.le M' ∧ M'.ok W' ∧ (∀ b, b < W.heap.size → M' b = M b) ∧ R n xs M'
/-- What a function hands back: a slice of its own. -/
def finRow (C : VX) (fn : Func) (E sz : Nat) (R : Nat → List Value → Mem → Prop) (e : Ex) (st : St) : Prop :=
  match e with
  | .exit _ => VStuck 180
  | _ => match resSV C st fn.results.toList with
    | some [.row id] => match st.own id with
      | some (.row E' sz' n xs) => match Nat.beq E' E && Nat.beq sz' sz with
        | true => st.withM fun M => VFact (R n xs M) True
        | false => VStuck 181
      | _ => VStuck 182
    | _ => VStuck 183
theorem FnRow.of_vc {C : VX} (hC : VXOK P C) {f : Nat} {fn : Func} {c : Code} (hf : P.funcs[f]? = some fn) (hb : fn.body = some c) (hname : (fn.name == "runtime.NumGoroutine") = false)
    {args : List Value} (hnt : Nat.ble args.length fn.ntmps = true) {M : Mem} {E sz : Nat} {R : Nat → List Value → Mem → Prop} (h : vc C P c (st0 args M fn.ntmps none) (finRow C fn E sz R)) : FnRow P f args M E sz R := by
  refine ⟨Go.Proofs.enters_of hf hname hb, fun W hW => ?_⟩
  refine (callsIn_wide (n := 100)).1 (callsIn_of_wp_marks hf hb trivial ?_ rfl)
  have hle := Nat.le_of_ble_eq_true hnt
  have hs0 : Sat W.heap.size W M (fun _ => undef) (st0 args M fn.ntmps none) { tmps := args.toArray ++ Array.replicate (fn.ntmps - args.toArray.size) undef, defers := [] } W := by
    refine ⟨⟨Below.refl _ _, Nat.le_refl _, hW, ?_, ?_, ?_, ?_, fun _ _ => rfl, fun b o hb => by cases hb⟩, by simp [st0]; omega, ?_, trivial⟩
    · intro id e he; simp [St.own, st0, look] at he
    · intro i j ei ej hi; simp [St.own, st0, look] at hi
    · intro i e b hi; simp [St.own, st0, look] at hi
    · intro b o hb; cases hb
    · intro d s hd
      obtain ⟨h1, h2, v, h3, rfl⟩ := argSlots_look args 0 d s hd
      refine ⟨by simp [st0]; omega, trivial, ?_⟩
      simp only [Nat.sub_zero] at h3
      rw [Array.getElem?_append_left (by simp; omega)]
      simp only [SV.den, List.getElem?_toArray]
      exact h3
  have := vc_sound (r := none) (n := 100) hC (κ := fun Y B => Y = none ∧ B = ⟨W.heap.size, W, M⟩) (fun l args rest B M W hκ => by cases hκ.1) (fx := fun _ => False) (tm := #[]) (B := ⟨W.heap.size, W, M⟩) c h (fun l hl => by cases hl) ⟨rfl, rfl⟩ hs0 (wr_false c) (fun d hd => hd.elim)
  refine wpIn_mono this ?_
  rintro e a' W' ⟨⟨ex, he, B, ρ, st, ⟨_, rfl⟩, h1, h2, h3⟩, _⟩
  have main : (e = .normal ∨ e = .ret) → LeavesInM (Fw none) 100 P fn a'.tmps (fun e W'' => ∃ v n xs M', e = .returned v ∧ W''.ownsRow W.heap.size E sz v n xs ∧ (∀ x ∈ xs, x.oneCell' = true) ∧ (∀ b, ob v = some b → M' b = none) ∧
    Below W.heap.size W W'' ∧ M.le M' ∧ M'.ok W'' ∧ (∀ b, b < W.heap.size → M' b = M b) ∧ R n xs M') a'.defers .returning W' := by
    intro hcase
    have h3' : (match resSV C st fn.results.toList with
      | some [.row id] => match st.own id with
        | some (.row E' sz' n xs) => match Nat.beq E' E && Nat.beq sz' sz with
          | true => st.withM fun M => VFact (R n xs M) True
          | false => VStuck 181
        | _ => VStuck 182
      | _ => VStuck 183) := by
      rcases hcase with rfl | rfl <;> cases he <;> exact h3
    split at h3'
    · rename_i id hrs
      split at h3'
      · rename_i E' sz' n xs hid
        split at h3'
        · rename_i hb2
          simp only [Bool.and_eq_true] at hb2
          have e1 := Nat.eq_of_beq_eq_true hb2.1
          have e2 := Nat.eq_of_beq_eq_true hb2.2
          subst e1 e2
          obtain ⟨hR, _⟩ := withM_iff h3'
          have hsl : ∀ d s, look st.sl d = some s → s.sc st.nx ∧ a'.tmps[d]? = some (s.den ρ) := fun d s hd => ⟨(h1.sl d s hd).2.1, (h1.sl d s hd).2.2⟩
          have hres := fun (G : Gh) (W'' : World) (hS : SatH W.heap.size W M ρ { st with G := G } W'') => results_run (tmps := a'.tmps) (st := { st with G := G }) hC hS hsl fn.results.toList (r := [.row id]) (by rw [resSV_G]; exact hrs)
          refine leaves_of a'.defers h1.h h1.h rfl (fun b => by rw [h2.2]; rfl) h1.marks ?_
          intro G W'' s1 s2
          obtain ⟨k1, k2, k3, k4⟩ := s2.own id _ hid
          have hv : slOf (ρ id) = ρ id := ownsRow_isSl k3
          refine ⟨slOf (ρ id), ?_, slOf (ρ id), n, xs, st.M, rfl, by rw [hv]; exact k3, k4, ?_, s2.below, ?_, s2.mem, s2.mlow, hR⟩
          · have hr := (hres G W'' s1).1
            exact results_ret fn a'.tmps P [slOf (ρ id)] W'' hr
          · intro b hb
            rw [hv] at hb
            exact s2.msep id _ b hid hb
          · intro b o hb
            have hlt := (Array.getElem?_eq_some_iff.1 (hW b o hb)).1
            rw [s2.mlow b hlt]; exact hb
        · cases h3'
      · cases h3'
    · cases h3'
  cases e with
  | normal => exact main (.inl rfl)
  | ret => exact main (.inr rfl)
  | exit i => cases he; cases h3
  | goto => cases he
  | panic => cases he
  | outgrown => cases he
/-- More is known of memory, and there is one more entry, in a block that is new. -/
theorem SatH.more {n₀ : Nat} {w : World} {M₀ : Mem} {ρ : Env} {st : St} {W W' : World} (h : SatH n₀ w M₀ ρ st W) {E sz n : Nat} {xs : List Value} {v : Value} {M' : Mem} (hb : Below W.heap.size W W') (hrow : W'.ownsRow W.heap.size E sz v n xs) (h1 : ∀ x ∈ xs, x.oneCell' = true)
    (hnone : ∀ b, ob v = some b → M' b = none) (hM : M'.ok W') (hnew : ∀ b, b < W.heap.size → M' b = st.M b) : SatH n₀ w M₀ (upd ρ st.nx v) { st.add (.row E sz n xs) with M := M' } W' := by
  have hob : ∀ b, ob v = some b → W.heap.size ≤ b := fun b hb' => by
    rcases hrow.2 with ⟨rfl, _⟩ | ⟨g, cap, cur, rfl, hg, _⟩
    · cases hb'
    · simp [ob] at hb'; omega
  have hrow' : W'.ownsRow n₀ E sz v n xs := by
    refine ⟨hrow.1, ?_⟩
    rcases hrow.2 with h2 | ⟨g, cap, cur, h2, hg, r⟩
    · exact .inl h2
    · exact .inr ⟨g, cap, cur, h2, Nat.le_trans h.size hg, r⟩
  have key := h.add (.row E sz n xs) v hb trivial (by exact ⟨by rw [upd_same]; exact hrow', h1⟩) hob
  have old : ∀ i ei b, st.own i = some ei → ob (ρ i) = some b → b < W.heap.size := fun i ei b hi hb' => ((h.own i ei hi).2.2.lt b hb').2.1
  refine ⟨key.below, key.size, hM, key.own, key.sep, ?_, ?_, ?_, key.fpin⟩
  · intro i e b hi hbb
    have hi' : (st.add (.row E sz n xs)).own i = some e := hi
    rw [own_add] at hi'
    by_cases e1 : i = st.nx
    · subst e1
      rw [upd_same] at hbb
      exact hnone b hbb
    · rw [if_neg e1] at hi'
      rw [agree_upd ρ st.nx v i (h.own i e hi').1] at hbb
      show M' b = none
      rw [hnew b (old i e b hi' hbb)]
      exact h.msep i e b hi' hbb
  · intro b o hbo
    obtain ⟨k1, k2, k3⟩ := h.pin b o hbo
    have hlt := (Array.getElem?_eq_some_iff.1 k2).1
    refine ⟨k1, (hb.block b hlt).trans k2, ?_⟩
    show M' b = none
    rw [hnew b hlt]; exact k3
  · intro b hb'
    show M' b = M₀ b
    rw [hnew b (Nat.lt_of_lt_of_le hb' h.size)]
    exact h.mlow b hb'
/-- A call of such a function, its arguments plain. -/
theorem VCall.ofRow {f : Nat} {vs : List Value} {st : St} {K : SV → St → Prop} {E sz : Nat} {R : Nat → List Value → Mem → Prop} (hF : FnRow P f vs st.M E sz R)
    (hK : ∀ n xs M', st.M.le M' → R n xs M' → K (.row st.nx) ⟨st.sl, (st.nx, some (.row E sz n xs)) :: st.ow, st.nx + 1, M', st.nt, st.G⟩) : VCall P f (vs.map .v) st K := by
  refine ⟨hF.1, fun n₀ w M₀ ρ W hS hsa hss => ?_⟩
  have e : (vs.map SV.v).map (SV.den ρ) = vs := by rw [List.map_map]; exact (List.map_congr_left fun _ _ => rfl).trans (List.map_id vs)
  rw [e]
  refine (hF.2 W hS.mem).mono ?_
  rintro e W' ⟨v, n, xs, M', rfl, k1, k2, k3, k4, k5, k6, k7, k8⟩
  refine ⟨.row st.nx, _, upd ρ st.nx v, ?_, Nat.lt_succ_self _, hS.more k4 k1 k2 k3 k6 k7, ?_, rfl, rfl, hK n xs M' k5 k8⟩
  · simp only [SV.den, upd_same]
    rw [ownsRow_isSl k1]
  · intro d s hd
    have hs := hss d s hd
    exact ⟨SV.sc_mono (Nat.le_succ _) hs, s, hd, SV.den_agree (agree_upd ρ st.nx _) hs⟩
/-- An own slice becomes immutable: the heap's part alone. -/
theorem SatH.frzRow {n₀ : Nat} {w : World} {M₀ : Mem} {ρ : Env} {st : St} {W : World} (h : SatH n₀ w M₀ ρ st W) {id E sz n : Nat} {xs : List Value} (hid : st.own id = some (.row E sz n xs)) :
    ∃ M', st.M.le M' ∧ SlAt M' sz (slOf (ρ id)) n xs ∧ SatH n₀ w M₀ ρ { st with ow := (id, none) :: st.ow, M := M' } W := by
  obtain ⟨g1, _, ho, h1⟩ := h.own id _ hid
  rcases ho.2 with ⟨hv, h0⟩ | ⟨g, cap, cur, hg, hge, hh, hnc, hcm, hcs, ht⟩
  · subst h0
    exact ⟨st.M, Mem.le_refl _, ⟨none, 0, by rw [hv]; rfl, Nat.le_refl _, by simp [maxLen], ho.1, h1, fun h => absurd h (Nat.lt_irrefl _)⟩, h.kill id⟩
  · have hob : ob (ρ id) = some g := by simp [hg, ob]
    obtain ⟨f1, f2⟩ := h.freeze hid hob hh
    refine ⟨_, f2, ⟨some ⟨g, 0, none⟩, cap, by rw [hg]; rfl, hnc, hcm, ho.1, h1, fun _ => ⟨_, rfl, fun j v hj => ?_⟩⟩, f1⟩
    rw [Addr.add_none]
    have hb : (st.M.with g (.cells cur E (0, 0))) g = some (.cells cur E (0, 0)) := by simp [Mem.with]
    rw [← ht, List.getElem?_take] at hj
    split at hj
    · simp only [Mem.cell, hb, Option.isSome_none, Bool.false_eq_true, if_false, Nat.zero_add]
      simpa using hj
    · cases hj
/-- The same, the one argument a growing slice of one's own. -/
theorem VCall.ofRow1 {f id : Nat} {st : St} {K : SV → St → Prop} {E0 sz0 n0 : Nat} {xs0 : List Value} {E sz : Nat} {R : Nat → List Value → Mem → Prop} (hid : st.own id = some (.row E0 sz0 n0 xs0)) (he : Enters P f)
    (hF : ∀ x M1, st.M.le M1 → SlAt M1 sz0 x n0 xs0 → FnRow P f [x] M1 E sz R)
    (hK : ∀ n xs M', st.M.le M' → R n xs M' → K (.row st.nx) ⟨st.sl, (st.nx, some (.row E sz n xs)) :: (id, none) :: st.ow, st.nx + 1, M', st.nt, st.G⟩) : VCall P f [.row id] st K := by
  refine ⟨he, fun n₀ w M₀ ρ W hS hsa hss => ?_⟩
  obtain ⟨M1, l1, s1, hS1⟩ := hS.frzRow hid
  have hF1 := hF _ M1 l1 s1
  show Calls P f #[slOf (ρ id)] W _
  refine (hF1.2 W hS1.mem).mono ?_
  rintro e W' ⟨v, n, xs, M', rfl, k1, k2, k3, k4, k5, k6, k7, k8⟩
  refine ⟨.row st.nx, _, upd ρ st.nx v, ?_, Nat.lt_succ_self _, hS1.more k4 k1 k2 k3 k6 k7, ?_, rfl, rfl, hK n xs M' (l1.trans k5) k8⟩
  · simp only [SV.den, upd_same]
    rw [ownsRow_isSl k1]
  · intro d s hd
    have hs := hss d s hd
    exact ⟨SV.sc_mono (Nat.le_succ _) hs, s, hd, SV.den_agree (agree_upd ρ st.nx _) hs⟩
end Go.V

/- slices.Grow of nil; contract of slices.Concat. -/
namespace Go.Proofs.YtlppfikkgcfaoaaGreat
open Go Go.V Go.RowKit Go.Shelf
/-- The numbers that the kit's names have here. -/
def grRen : Ren where
  f := fun
    | 4 => 39
    | n => n
  t := fun
    | 0 => 0
    | 3 => 3
    | 4 => 4
    | 9 => 9
    | 20 => 20
    | 22 => 34
    | 25 => 23
    | n => n
  g := fun n => n
theorem grLay : Lays8.n4 Tryz.prog grRen where
  mixed := rfl
  f4 := ⟨Tryz.f39.name, by kernel_rfl, Tryz.func39.trans (by kernel_rfl)⟩
  t0 := Tryz.underlying0
  a0 := Tryz.isAgg0
  z0 := Tryz.sizeOf0
  v0 := Tryz.zeroValue0
  t3 := Tryz.underlying3
  a3 := Tryz.isAgg3
  z3 := Tryz.sizeOf3
  v3 := Tryz.zeroValue3
  t4 := Tryz.underlying4
  a4 := Tryz.isAgg4
  z4 := Tryz.sizeOf4
  v4 := Tryz.zeroValue4
  t9 := Tryz.underlying9
  a9 := Tryz.isAgg9
  z9 := Tryz.sizeOf9
  v9 := Tryz.zeroValue9
  t20 := Tryz.underlying20
  a20 := Tryz.isAgg20
  z20 := Tryz.sizeOf20
  v20 := Tryz.zeroValue20
  t22 := Tryz.underlying34
  a22 := Tryz.isAgg34
  z22 := Tryz.sizeOf34
  v22 := Tryz.zeroValue34
theorem Grow_call {n : Nat} {st : St} {K : SV → St → Prop} (h1 : 0 < n) (h2 : n ≤ 100000) (hK : K (.row st.nx) (st.add (.row 23 2 0 []))) :
    VCall Tryz.prog 39 [.v (.slice none 0 0), .v (.int .i64 n)] st K := by
  obtain ⟨i0, z, hi0, hs0, hz0, hzc, hb0⟩ := ty23.inf
  have hsz : i0.size = 2 := hs0
  have hby : i0.bytes = 16 := hb0
  refine ⟨enters_of Tryz.func39 (by kernel_rfl) rfl, fun n₀ w M₀ ρ W hS hsa hss => ?_⟩
  have key := Any8.slices_Grow_grow grLay i0 z hi0 hz0 (by rw [hsz]; decide) none 0 0 n [] W (Nat.le_refl _) (by omega) (by rw [hby]; omega) (by omega) (by simp) (fun _ => rfl) (fun a h => by cases h)
  refine key.mono ?_
  rintro e W' ⟨rfl, rfl⟩
  have hG := grownCap_ge W (0 + n) 0 (grRen.t 25)
  have hG2 := grownCap_le_maxLen W (0 + n) 0 (grRen.t 25) (by unfold maxLen; omega)
  generalize grownCap W (0 + n) 0 (grRen.t 25) = cap at *
  refine ⟨.row st.nx, st.add (.row 23 2 0 []), upd ρ st.nx (.slice (some ⟨W.heap.size, 0, none⟩) 0 cap), ?_, ?_, ?_, ?_, rfl, rfl, hK⟩
  · simp [SV.den, upd_same, slOf]
  · exact Nat.lt_succ_self _
  · refine hS.add _ _ (((Below.refl _ W).drew).alloc (Nat.le_refl _) _) trivial ?_ ?_
    · refine ⟨⟨rfl, .inr ⟨W.heap.size, cap, #[] ++ Builtin.zeroCells z.cells (0 + n - 0) ++ Builtin.zeroCells z.cells (cap - (0 + n)), upd_same _ _ _, hS.size, heap_alloc_new _ _, Nat.zero_le _, hG2, ?_, by simp⟩⟩, by simp⟩
      have hz2 : z.cells.size = 2 := by rw [hzc]; rfl
      simp only [Array.size_append, Array.size_empty, size_zeroCells, hz2]
      omega
    · intro b hb
      simp [ob] at hb
      omega
  · intro d s hd
    have hs := hss d s hd
    exact ⟨SV.sc_mono (Nat.le_succ _) hs, s, hd, SV.den_agree (agree_upd ρ st.nx _) hs⟩
/-! ### slices.Concat -/
theorem take_gd {α : Type} (d : α) (l : List α) {i : Nat} (h : i < l.length) : l.take (i + 1) = l.take i ++ [l.getD i d] := by
  rw [List.take_add_one]
  simp only [List.getD_eq_getElem?_getD, List.getElem?_eq_getElem h, Option.getD_some, Option.toList_some]
def sumL (ls : List (List Pt)) : Nat := (ls.map List.length).sum
theorem sumL_take {ls : List (List Pt)} {i : Nat} (h : i < ls.length) : sumL (ls.take (i + 1)) = sumL (ls.take i) + (gr ls i).length := by
  unfold sumL gr
  rw [take_gd [] ls h, List.map_append, List.sum_append]; rfl
theorem sumL_flat (ls : List (List Pt)) : sumL ls = ls.flatten.length := by unfold sumL; rw [List.length_flatten]
theorem flat_take {ls : List (List Pt)} {i : Nat} (h : i < ls.length) : (ls.take (i + 1)).flatten = (ls.take i).flatten ++ gr ls i := by
  unfold gr
  rw [take_gd [] ls h, List.flatten_append]; simp
theorem sumL_le (ls : List (List Pt)) (i : Nat) : sumL (ls.take i) ≤ sumL ls := by
  rw [sumL_flat, sumL_flat]
  have := congrArg List.length (congrArg List.flatten (List.take_append_drop i ls))
  rw [List.flatten_append, List.length_append] at this
  omega
set_option maxRecDepth 20000 in
set_option maxHeartbeats 2000000 in
theorem Concat_fn (v : Value) (ls : List (List Pt)) (M : Mem) (hv : RegV M v ls) (h0 : 0 < ls.flatten.length) (h1 : ls.flatten.length ≤ 100000) :
    FnRow Tryz.prog 25 [v] M 23 2 fun n xs M' => n = ls.flatten.length ∧ xs = cellsP ls.flatten ∧ M' = M := by
  obtain ⟨ad, c, rfl, hm, hrd⟩ := hv.get
  have hs := sumL_flat ls
  refine FnRow.of_vc cxIOK Tryz.func25 rfl rfl rfl ?_
  repeat (first | refine VIf.tt ?_ | refine VIf.ff ?_)
  refine VCode.loop cxIOK (Nat × Int) (fun s => ⟨[(0, .v (.slice ad ls.length c)), (3, .v (.int .i64 s.2)), (9, .v (.slice ad ls.length c)), (10, .v (.int .i64 ls.length)), (11, .v (.int .i64 s.1))], [], 0, M, 36, ⟨fun _ => none, none, fun _ => none⟩⟩)
    (fun s => s.1 ≤ ls.length ∧ s.2 = (sumL (ls.take s.1) : Nat)) (fun s => ls.length - s.1) (0, 0) ⟨Nat.zero_le _, rfl⟩ (Wk.mk' id (by repeat' constructor) (by repeat' constructor) (injOK_id _) rfl rfl rfl) ?_
  rintro ⟨i, z⟩ ⟨hi, hz⟩ m
  simp only at hi hz
  repeat (first | refine VIf.tt ?_ | refine VIf.ff ?_)
  refine VIf.mk (fun hlt => ?_) (fun hge => ?_)
  · have hlt : i < ls.length := lt_of_dec hlt
    obtain ⟨ad', w, ead, hw, hw64, hc⟩ := hrd M (Mem.le_refl _) i hlt
    obtain ⟨wd, wc, rfl⟩ := hw.shape
    have hle := sumL_le ls (i + 1)
    have hst : sumL (ls.take (i + 1)) = sumL (ls.take i) + (ls.getD i []).length := sumL_take hlt
    repeat (first | refine VIf.tt ?_ | refine VIf.ff ?_)
    refine VIdx.mk ad' i ead rfl hlt ?_
    repeat (first | refine VIf.tt ?_ | refine VIf.ff ?_)
    refine VRead.mk _ hc ?_
    repeat (first | refine VIf.tt ?_ | refine VIf.ff ?_)
    refine VArith.ok (by simp only; omega) (by simp only; omega) ?_
    repeat (first | refine VIf.tt ?_ | refine VIf.ff ?_)
    refine VIf.mk (fun h => ?_) (fun _ => ?_)
    · have h := of_decide_eq_true h
      exfalso
      simp only at h
      omega
    repeat (first | refine VIf.tt ?_ | refine VIf.ff ?_)
    refine VArith.ok (by first | omega | (simp only; omega)) (by first | omega | (simp only; omega)) ?_
    exact ⟨(i + 1, z + ((ls.getD i []).length : Nat)), ⟨hlt, by simp only; omega⟩, (by first | omega | (simp only; omega)), (Wk.mk' id (by repeat' constructor) (by repeat' constructor) (injOK_id _) rfl rfl rfl)⟩
  have : i = ls.length := by have := ge_of_dec hge; simp only at this; omega
  subst this
  rw [List.take_length] at hz
  subst hz
  repeat (first | refine VIf.tt ?_ | refine VIf.ff ?_)
  refine VOwn.own (Grow_call (by omega) (by omega) ?_)
  repeat (first | refine VIf.tt ?_ | refine VIf.ff ?_)
  refine VCode.loop cxIOK Nat (fun i => ⟨[(0, .v (.slice ad ls.length c)), (6, .row 0), (25, .v (.slice ad ls.length c)), (26, .v (.int .i64 ls.length)), (27, .v (.int .i64 i))], [(0, some (.row 23 2 (ls.take i).flatten.length (cellsP (ls.take i).flatten)))], 1, M, 36, ⟨fun _ => none, none, fun _ => none⟩⟩)
    (fun i => i ≤ ls.length) (fun i => ls.length - i) 0 (Nat.zero_le _) (Wk.mk' id (by repeat' constructor) (by repeat' constructor) (injOK_id _) rfl rfl rfl) ?_
  intro i hi m
  repeat (first | refine VIf.tt ?_ | refine VIf.ff ?_)
  refine VIf.mk (fun hlt => ?_) (fun hge => ?_)
  · have hlt : i < ls.length := lt_of_dec hlt
    obtain ⟨ad', w, ead, hw, hw64, hc⟩ := hrd M (Mem.le_refl _) i hlt
    obtain ⟨wd, wc, rfl⟩ := hw.shape
    have hle := sumL_le ls (i + 1)
    have hst : sumL (ls.take (i + 1)) = sumL (ls.take i) + (ls.getD i []).length := sumL_take hlt
    rw [sumL_flat (ls.take i)] at hst
    repeat (first | refine VIf.tt ?_ | refine VIf.ff ?_)
    refine VIdx.mk ad' i ead rfl hlt ?_
    repeat (first | refine VIf.tt ?_ | refine VIf.ff ?_)
    refine VRead.mk _ hc ?_
    repeat (first | refine VIf.tt ?_ | refine VIf.ff ?_)
    refine VSl.mk (ls.getD i []).length (cellsP (ls.getD i [])) hw ?_
    repeat (first | refine VIf.tt ?_ | refine VIf.ff ?_)
    refine VFact.mk (by first | omega | (simp only; omega)) ?_
    repeat (first | refine VIf.tt ?_ | refine VIf.ff ?_)
    refine VArith.ok (by first | omega | (simp only; omega)) (by first | omega | (simp only; omega)) ?_
    refine ⟨i + 1, hlt, (by first | omega | (simp only; omega)), Wk.mk' (fun k => if k = 0 then 1 else k) (by repeat' constructor) ⟨⟨rfl, ⟨rfl, rfl, ?_, ?_⟩⟩, trivial⟩ (by simp [injOK]) rfl rfl rfl⟩
    · rw [flat_take hlt, List.length_append]; rfl
    · rw [flat_take hlt, show ls.getD i [] = gr ls i from rfl]; simp [cellsP]
  · have : i = ls.length := by have := ge_of_dec hge; omega
    subst this
    have e : ls.take ls.length = ls := List.take_length
    repeat (first | refine VIf.tt ?_ | refine VIf.ff ?_)
    exact VFact.mk ⟨by rw [e], by rw [e], rfl⟩ trivial
end Go.Proofs.YtlppfikkgcfaoaaGreat

/- Contract: slices.Chunk. -/
namespace Go.Proofs.YtlppfikkgcfaoaaGreat
open Go Go.V Go.RowKit
def chV (a : Addr) (n k : Nat) : Value := .slice (some (a.add (64 * k * 2))) (min 64 (n - 64 * k)) (min 64 (n - 64 * k))
def chL (a : Addr) (n : Nat) : List (List Value) := (List.range ((n + 63) / 64)).map fun k => [chV a n k]
def chP (ps : List Pt) (k : Nat) : List Pt := (ps.drop (64 * k)).take 64
theorem chP_len (ps : List Pt) (k : Nat) : (chP ps k).length = min 64 (ps.length - 64 * k) := by unfold chP; rw [List.length_take, List.length_drop]
theorem chP_gp {ps : List Pt} {k i : Nat} (h : i < (chP ps k).length) : gp (chP ps k) i = gp ps (64 * k + i) := by
  have hl := chP_len ps k
  unfold gp chP
  simp only [List.getD_eq_getElem?_getD]
  rw [List.getElem?_take, if_pos (by omega), List.getElem?_drop]
theorem Chunk_fn (ad : Option Addr) (n c : Nat) (M : Mem) : V.Fn Tryz.prog 28 [.slice ad n c, .int .i64 64] M fun rs M' => ∃ B1 B2, rs = [.func (.func 47) #[] #[.pointer (some ⟨B1, 0, none⟩), .pointer (some ⟨B2, 0, none⟩)]] ∧ M' B1 = some (.cells #[.slice ad n c] 34 (0, 0)) ∧ M' B2 = some (.cells #[.int .i64 64] 3 (0, 0)) := by
  refine Fn.of_vc cxOK Tryz.func28 rfl rfl rfl ?_
  repeat (first | refine VIf.tt ?_ | refine VIf.ff ?_)
  repeat (first | refine VIf.tt ?_ | refine VIf.ff ?_)
  refine VFzB.mk fun z1 B1 M1 hM1 hB1 => ?_
  repeat (first | refine VIf.tt ?_ | refine VIf.ff ?_)
  refine VFzB.mk fun z2 B2 M2 hM2 hB2 => ?_
  repeat (first | refine VIf.tt ?_ | refine VIf.ff ?_)
  exact VFact.mk ⟨B1, B2, rfl, hM2 _ _ hB1, hB2⟩ trivial
theorem chunk_iter (a : Addr) (n c : Nat) (hn : n ≤ c) (hn' : n ≤ 100000) (M : Mem) (B1 B2 : Nat) (hB1 : M B1 = some (.cells #[.slice (some a) n c] 34 (0, 0))) (hB2 : M B2 = some (.cells #[.int .i64 64] 3 (0, 0))) :
    Iter Tryz.prog 47 #[.pointer (some ⟨B1, 0, none⟩), .pointer (some ⟨B2, 0, none⟩)] M (chL a n) := by
  refine Iter.of_vc cxOK Tryz.func47 rfl rfl rfl rfl fun l => ?_
  repeat (first | refine VIf.tt ?_ | refine VIf.ff ?_)
  refine VCode.loopG cxOK (fun m => m = fun _ => none) rfl Nat
    (fun i => ⟨[(0, .v (.func (.yield l) #[] #[])), (1, .v (.pointer (some ⟨B1, 0, none⟩))), (2, .v (.pointer (some ⟨B2, 0, none⟩))), (4, .v (.int .i64 (64 * (i : Int))))], [], 0, M, 31, ⟨fun _ => none, some (l, (chL a n).drop i), fun _ => none⟩⟩)
    (fun i => i ≤ (n + 63) / 64) (fun i => (n + 63) / 64 - i) 0 (Nat.zero_le _) (Wk.mk' id (by repeat' constructor) (by repeat' constructor) (injOK_id _) rfl rfl rfl) ?_
  rintro i hi m rfl
  repeat (first | refine VIf.tt ?_ | refine VIf.ff ?_)
  refine VRead.mk _ (cellAt hB1 0 rfl) ?_
  repeat (first | refine VIf.tt ?_ | refine VIf.ff ?_)
  refine VIf.mk (fun hlt => ?_) (fun hge => ?_)
  · have hlt : 64 * i < n := by have := of_decide_eq_true hlt; omega
    repeat (first | refine VIf.tt ?_ | refine VIf.ff ?_)
    refine VDraw.go (by kernel_rfl) ?_
    repeat (first | refine VIf.tt ?_ | refine VIf.ff ?_)
    refine VRead.mk _ (cellAt hB2 0 rfl) ?_
    repeat (first | refine VIf.tt ?_ | refine VIf.ff ?_)
    refine VRead.mk _ (cellAt hB1 0 rfl) ?_
    repeat (first | refine VIf.tt ?_ | refine VIf.ff ?_)
    refine VBnd.mk (64 * i) (by omega) (by omega) ?_
    have hm : List.foldl min (64 : Int) [((n - 64 * i : Nat) : Int)] = ((min 64 (n - 64 * i) : Nat) : Int) := by simp only [List.foldl_cons, List.foldl_nil]; omega
    repeat (first | refine VIf.tt ?_ | refine VIf.ff ?_)
    refine VRead.mk _ (cellAt hB1 0 rfl) ?_
    repeat (first | refine VIf.tt ?_ | refine VIf.ff ?_)
    refine VArith.ok (by first | omega | (simp only; omega)) (by first | omega | (simp only; omega)) ?_
    repeat (first | refine VIf.tt ?_ | refine VIf.ff ?_)
    refine VArith.ok (by first | omega | (simp only; omega)) (by first | omega | (simp only; omega)) ?_
    repeat (first | refine VIf.tt ?_ | refine VIf.ff ?_)
    refine VBnd.mk (64 * i + min 64 (n - 64 * i)) (by omega) (by omega) ?_
    repeat (first | refine VIf.tt ?_ | refine VIf.ff ?_)
    refine VBnd.mk (64 * i + min 64 (n - 64 * i)) (by omega) (Nat.le_refl _) ?_
    repeat (first | refine VIf.tt ?_ | refine VIf.ff ?_)
    refine VBnd.mk (64 * i) (by omega) (by omega) ?_
    repeat (first | refine VIf.tt ?_ | refine VIf.ff ?_)
    refine VYield.mk ((chL a n).drop (i + 1)) ?_ ?_ ?_
    · simp only [Gh.mk.injEq, and_true, true_and, Option.some.injEq, Prod.mk.injEq]
      rw [List.drop_eq_getElem_cons (by simp [chL]; omega)]
      have e : 64 * i + min 64 (n - 64 * i) - 64 * i = min 64 (n - 64 * i) := by omega
      simp [chL, chV, e]
      try omega
    · refine VIf.ff ?_
      repeat (first | refine VIf.tt ?_ | refine VIf.ff ?_)
      refine VRead.mk _ (cellAt hB2 0 rfl) ?_
      repeat (first | refine VIf.tt ?_ | refine VIf.ff ?_)
      refine VArith.ok (by show _ ≤ (64 * (i : Int) + 64); omega) (by show (64 * (i : Int) + 64) ≤ _; omega) ?_
      refine ⟨rfl, i + 1, by omega, by omega, ?_⟩
      have ee : 64 * (((i + 1 : Nat)) : Int) = 64 * (i : Int) + 64 := by omega
      simp only [ee]
      exact (Wk.mk' id (by repeat' constructor) (by repeat' constructor) (injOK_id _) rfl rfl rfl)
    · refine VIf.tt ?_
      exact VEnd.stop rfl
  · have hge : i = (n + 63) / 64 := by have := of_decide_eq_false hge; omega
    subst hge
    exact VEnd.all (by simp [chL])
end Go.Proofs.YtlppfikkgcfaoaaGreat

/- Sectors, plainly: the places that are rounded, their hulls, the eight-sided hulls of parts. -/
namespace Go.Proofs.YtlppfikkgcfaoaaGreat
open Go Go.V Go.RowKit
/-- The places that a sector's polygon is made of. -/
def secL (a n : Nat) (lo hi : Int) (k : Nat) : List Pt := rndP (rayP a) lo 1001 ++ rndP (rayP (a + n)) lo 1001 ++ (List.range k).flatMap fun i => rndP (rayP (a + i)) hi 998
def secA (a n : Nat) (lo hi : Int) : List Pt := secL a n lo hi (n + 1)
def secOK (a n lo hi : Int) : Bool := decide (0 ≤ a ∧ a < 64 ∧ 0 ≤ n ∧ n < 32) && decide (0 ≤ lo ∧ lo ≤ hi ∧ hi ≤ 100000)
/-- Its corners, if there are many. -/
def cornL (ps : List Pt) (k : Nat) : List Pt := (List.range k).flatMap fun i => eightP (aroundP (chP ps i))
def secP (a n : Nat) (lo hi : Int) : List Pt := if (aroundP (secA a n lo hi)).length ≤ 64 then aroundP (secA a n lo hi) else eightP (aroundP (cornL (secA a n lo hi) (((secA a n lo hi).length + 63) / 64)))
theorem secL_step (a n : Nat) (lo hi : Int) (k : Nat) : secL a n lo hi (k + 1) = secL a n lo hi k ++ rndP (rayP (a + k)) hi 998 := by
  unfold secL; rw [List.range_succ, List.flatMap_append]; simp
theorem secL_len (a n : Nat) (lo hi : Int) : ∀ k, (secL a n lo hi k).length = 8 + 4 * k
  | 0 => rfl
  | k + 1 => by rw [secL_step, List.length_append, secL_len a n lo hi k]; simp only [rndP, List.length_cons, List.length_nil]; omega
theorem flo_bd {c n d : Int} (hc : -1000 ≤ c ∧ c ≤ 1000) (hn : 0 ≤ n ∧ n ≤ 100000) (hd : d = 998 ∨ d = 1001) : (-100300 ≤ flo c n d ∧ flo c n d ≤ 100300) ∧ -100300 ≤ cei c n d ∧ cei c n d ≤ 100300 := by
  have hm := mul_bd (a := c) (b := n) 1000 100000 (by omega) (by omega) (by omega) (by omega) (by omega) (by omega)
  unfold flo cei
  rcases hd with rfl | rfl <;> omega
theorem rnd_bd {t : Pt} {n d : Int} (ht : isR t) (hn : 0 ≤ n ∧ n ≤ 100000) (hd : d = 998 ∨ d = 1001) : ∀ p ∈ rndP t n d, -100300 ≤ p.1 ∧ p.1 ≤ 100300 ∧ -100300 ≤ p.2 ∧ p.2 ≤ 100300 := by
  unfold isR at ht
  have h1 := flo_bd (c := t.1) (n := n) (d := d) (by omega) hn hd
  have h2 := flo_bd (c := t.2) (n := n) (d := d) (by omega) hn hd
  intro p hp
  simp only [rndP, List.mem_cons, List.not_mem_nil, or_false] at hp
  rcases hp with rfl | rfl | rfl | rfl <;> (simp only; omega)
theorem bd_place {p : Pt} (h : -100300 ≤ p.1 ∧ p.1 ≤ 100300 ∧ -100300 ≤ p.2 ∧ p.2 ≤ 100300) : placeB p = true := by
  unfold placeB
  rw [Bool.and_eq_true, isCb_iff, isCb_iff]
  unfold isC; omega
theorem mem_64 {l : List Pt} (h : ∀ p ∈ l, placeB p = true) : i64P l := fun i hi => place_64 (h _ (gp_mem hi))
theorem rnd_place {t : Pt} {n d : Int} (ht : isR t) (hn : 0 ≤ n ∧ n ≤ 100000) (hd : d = 998 ∨ d = 1001) : ∀ p ∈ rndP t n d, placeB p = true := fun p hp => bd_place (rnd_bd ht hn hd p hp)
theorem secL_place {a n : Nat} {lo hi : Int} (h : 0 ≤ lo ∧ lo ≤ hi ∧ hi ≤ 100000) (k : Nat) : ∀ p ∈ secL a n lo hi k, placeB p = true := by
  intro p hp
  simp only [secL, List.mem_append, List.mem_flatMap, List.mem_range] at hp
  rcases hp with (hp | hp) | ⟨i, _, hp⟩
  · exact rnd_place (ray_R _) (by omega) (.inr rfl) p hp
  · exact rnd_place (ray_R _) (by omega) (.inr rfl) p hp
  · exact rnd_place (ray_R _) (by omega) (.inl rfl) p hp
theorem hullB_small {l : List Pt} (hp : ∀ p ∈ l, placeB p = true) (hne : l ≠ []) (hl : l.length ≤ 64) : hullB l = (aroundP l, 0) := by
  have h1 := hl_len (around_hl hne)
  unfold hullB
  rw [if_neg (by omega), if_neg, if_neg (by omega)]
  rintro (h | h)
  · exact hne h
  · rw [List.all_eq_true.2 hp] at h; cases h
theorem hullB_mid {l : List Pt} (hp : ∀ p ∈ l, placeB p = true) (hne : l ≠ []) (hl : l.length ≤ 4000) : hullB l = if (aroundP l).length ≤ 64 then (aroundP l, 0) else ([], 2) := by
  unfold hullB
  rw [if_neg (by omega), if_neg]
  · split <;> split <;> first | rfl | omega
  rintro (h | h)
  · exact hne h
  · rw [List.all_eq_true.2 hp] at h; cases h
theorem valid_small {l : List Pt} (hp : ∀ p ∈ l, placeB p = true) (hne : l ≠ []) (hl : (aroundP l).length ≤ 64) : validB (aroundP l) = true := (around_hl hne).valid hp hl
theorem valid_mem {p : List Pt} (h : validB p = true) : ∀ x ∈ p, placeB x = true := fun x hx => by
  obtain ⟨i, hi, rfl⟩ := mem_gp hx
  exact valid_place h hi
theorem chP_sub {ps : List Pt} {k : Nat} : ∀ x ∈ chP ps k, x ∈ ps := fun x hx => List.mem_of_mem_drop (List.mem_of_mem_take hx)
theorem chP_ne {ps : List Pt} {k : Nat} (h : k < (ps.length + 63) / 64) : chP ps k ≠ [] := by
  intro e
  have := chP_len ps k
  rw [e] at this
  simp only [List.length_nil] at this
  omega
theorem ch_valid {ps : List Pt} {k : Nat} (hp : ∀ p ∈ ps, placeB p = true) (h : k < (ps.length + 63) / 64) : hullB (chP ps k) = (aroundP (chP ps k), 0) ∧ validB (aroundP (chP ps k)) = true := by
  have h1 := chP_len ps k
  have hq : ∀ p ∈ chP ps k, placeB p = true := fun p hx => hp p (chP_sub p hx)
  refine ⟨hullB_small hq (chP_ne h) (by omega), valid_small hq (chP_ne h) ?_⟩
  have := hl_len (around_hl (chP_ne h))
  omega
theorem cornL_step (ps : List Pt) (k : Nat) : cornL ps (k + 1) = cornL ps k ++ eightP (aroundP (chP ps k)) := by
  unfold cornL; rw [List.range_succ, List.flatMap_append]; simp
theorem cornL_spec {ps : List Pt} (hp : ∀ p ∈ ps, placeB p = true) : ∀ k, k ≤ (ps.length + 63) / 64 → (cornL ps k).length ≤ 8 * k ∧ (∀ p ∈ cornL ps k, placeB p = true) ∧ (0 < k → cornL ps k ≠ [])
  | 0, _ => ⟨Nat.le_refl _, (by intro p hp; simp [cornL] at hp), fun h => absurd h (Nat.lt_irrefl _)⟩
  | k + 1, h => by
    obtain ⟨h1, h2, _⟩ := cornL_spec hp k (by omega)
    have hv := (ch_valid hp (k := k) (by omega)).2
    obtain ⟨e1, e2, e3, _⟩ := eight_spec hv
    rw [cornL_step]
    refine ⟨?_, fun p hx => ?_, fun _ e => ?_⟩
    · rw [List.length_append]; omega
    · rcases List.mem_append.1 hx with hx | hx
      · exact h2 p hx
      · exact valid_mem e2 p hx
    · have := e1.pos
      have e := congrArg List.length e
      rw [List.length_append] at e
      simp only [List.length_nil] at e
      omega
theorem lo_le {g : Pt → Int} {A B : List Pt} (hA : 1 ≤ A.length) (hB : 1 ≤ B.length) (h : ∀ x ∈ A, loB g B ≤ g x) (k : ∀ x ∈ B, loB g A ≤ g x) : loB g A = loB g B := by
  obtain ⟨_, y, hy, e⟩ := lo_spec g hA
  obtain ⟨_, z, hz, f⟩ := lo_spec g hB
  have := h y hy
  have := k z hz
  omega
theorem hi_le {g : Pt → Int} {A B : List Pt} (hA : 1 ≤ A.length) (hB : 1 ≤ B.length) (h : ∀ x ∈ A, g x ≤ hiB g B) (k : ∀ x ∈ B, g x ≤ hiB g A) : hiB g A = hiB g B := by
  obtain ⟨_, y, hy, e⟩ := hi_spec g hA
  obtain ⟨_, z, hz, f⟩ := hi_spec g hB
  have := h y hy
  have := k z hz
  omega
/-- The bounds of two lists are the same, if each list's places are within those of the other one. -/
theorem b8_ext {A B : List Pt} (hA : 1 ≤ A.length) (hB : 1 ≤ B.length) (h : ∀ x ∈ A, (b8 B).has x) (k : ∀ x ∈ B, (b8 A).has x) : b8 A = b8 B := by
  show (⟨loB fX A, hiB fX A, loB fY A, hiB fY A, loB fS A, hiB fS A, loB fD A, hiB fD A⟩ : B8) = ⟨loB fX B, hiB fX B, loB fY B, hiB fY B, loB fS B, hiB fS B, loB fD B, hiB fD B⟩
  rw [lo_le (g := fX) hA hB (fun x hx => (h x hx).1) (fun x hx => (k x hx).1),
    hi_le (g := fX) hA hB (fun x hx => (h x hx).2.1) (fun x hx => (k x hx).2.1),
    lo_le (g := fY) hA hB (fun x hx => (h x hx).2.2.1) (fun x hx => (k x hx).2.2.1),
    hi_le (g := fY) hA hB (fun x hx => (h x hx).2.2.2.1) (fun x hx => (k x hx).2.2.2.1),
    lo_le (g := fS) hA hB (fun x hx => (h x hx).2.2.2.2.1) (fun x hx => (k x hx).2.2.2.2.1),
    hi_le (g := fS) hA hB (fun x hx => (h x hx).2.2.2.2.2.1) (fun x hx => (k x hx).2.2.2.2.2.1),
    lo_le (g := fD) hA hB (fun x hx => (h x hx).2.2.2.2.2.2.1) (fun x hx => (k x hx).2.2.2.2.2.2.1),
    hi_le (g := fD) hA hB (fun x hx => (h x hx).2.2.2.2.2.2.2) (fun x hx => (k x hx).2.2.2.2.2.2.2)]
/-- A further list only widens them. -/
theorem b8_mono {A B : List Pt} (hA : 1 ≤ A.length) (hB : 1 ≤ B.length) (h : ∀ x ∈ A, (b8 B).has x) {y : Pt} (hy : (b8 A).has y) : (b8 B).has y := by
  have lo : ∀ g : Pt → Int, (∀ x ∈ A, loB g B ≤ g x) → loB g B ≤ loB g A := fun g hg => by
    obtain ⟨_, z, hz, e⟩ := lo_spec g hA
    rw [e]; exact hg z hz
  have hi : ∀ g : Pt → Int, (∀ x ∈ A, g x ≤ hiB g B) → hiB g A ≤ hiB g B := fun g hg => by
    obtain ⟨_, z, hz, e⟩ := hi_spec g hA
    rw [e]; exact hg z hz
  obtain ⟨h1, h2, h3, h4, h5, h6, h7, h8⟩ := hy
  exact ⟨Int.le_trans (lo fX fun x hx => (h x hx).1) h1, Int.le_trans h2 (hi fX fun x hx => (h x hx).2.1),
    Int.le_trans (lo fY fun x hx => (h x hx).2.2.1) h3, Int.le_trans h4 (hi fY fun x hx => (h x hx).2.2.2.1),
    Int.le_trans (lo fS fun x hx => (h x hx).2.2.2.2.1) h5, Int.le_trans h6 (hi fS fun x hx => (h x hx).2.2.2.2.2.1),
    Int.le_trans (lo fD fun x hx => (h x hx).2.2.2.2.2.2.1) h7, Int.le_trans h8 (hi fD fun x hx => (h x hx).2.2.2.2.2.2.2)⟩
theorem ne_len {l : List Pt} (h : l ≠ []) : 1 ≤ l.length := List.length_pos_iff.2 h
theorem b8_around {S : List Pt} (hne : S ≠ []) (hv : validB (aroundP S) = true) : b8 (aroundP S) = b8 S :=
  b8_ext (len_one hv).1 (ne_len hne) (fun x hx => b8_has (ne_len hne) x ((around_hl hne).sub x hx)) fun x hx => has_b8 hv ((around_hl hne).has hx)
theorem mem_corn {ps : List Pt} {k : Nat} {x : Pt} : x ∈ cornL ps k ↔ ∃ i, i < k ∧ x ∈ eightP (aroundP (chP ps i)) := by
  unfold cornL; simp only [List.mem_flatMap, List.mem_range]
theorem mem_ch {ps : List Pt} {y : Pt} (hy : y ∈ ps) : ∃ k, k < (ps.length + 63) / 64 ∧ y ∈ chP ps k := by
  obtain ⟨i, hi, rfl⟩ := mem_gp hy
  have hcl := chP_len ps (i / 64)
  refine ⟨i / 64, by omega, ?_⟩
  have := chP_gp (ps := ps) (k := i / 64) (i := i % 64) (by omega)
  rw [show 64 * (i / 64) + i % 64 = i by omega] at this
  rw [← this]; exact gp_mem (by omega)
/-- The parts' eight-sided hulls have the bounds of all. -/
theorem corn_b8 {ps : List Pt} (hp : ∀ p ∈ ps, placeB p = true) (hne : ps ≠ []) : b8 (cornL ps ((ps.length + 63) / 64)) = b8 ps := by
  have hps := ne_len hne
  have hc := cornL_spec hp _ (Nat.le_refl ((ps.length + 63) / 64))
  have hcn := ne_len (hc.2.2 (by omega))
  have part : ∀ k, k < (ps.length + 63) / 64 → b8 (eightP (aroundP (chP ps k))) = b8 (chP ps k) ∧ 1 ≤ (eightP (aroundP (chP ps k))).length := fun k hk => by
    have hv := (ch_valid hp hk).2
    obtain ⟨_, e2, _, e4, _⟩ := eight_spec hv
    exact ⟨by rw [e4, b8_around (chP_ne hk) hv], (len_one e2).1⟩
  refine b8_ext hcn hps (fun x hx => ?_) fun y hy => ?_
  · obtain ⟨k, hk, hx⟩ := mem_corn.1 hx
    obtain ⟨e1, e2⟩ := part k hk
    refine b8_mono (ne_len (chP_ne hk)) hps (fun z hz => b8_has hps z (chP_sub z hz)) ?_
    rw [← e1]; exact b8_has e2 x hx
  · obtain ⟨k, hk, hy⟩ := mem_ch hy
    obtain ⟨e1, e2⟩ := part k hk
    refine b8_mono e2 hcn (fun z hz => b8_has hcn z (mem_corn.2 ⟨k, hk, hz⟩)) ?_
    rw [e1]; exact b8_has (ne_len (chP_ne hk)) y hy
theorem corn_all {ps : List Pt} (hp : ∀ p ∈ ps, placeB p = true) (hne : ps ≠ []) (hl : ps.length ≤ 500) : hullB (cornL ps ((ps.length + 63) / 64)) = (aroundP (cornL ps ((ps.length + 63) / 64)), 0) ∧ validB (aroundP (cornL ps ((ps.length + 63) / 64))) = true ∧ b8 (aroundP (cornL ps ((ps.length + 63) / 64))) = b8 ps := by
  have hps := ne_len hne
  have hc := cornL_spec hp _ (Nat.le_refl ((ps.length + 63) / 64))
  have hcn := hc.2.2 (by omega)
  have h1 := hc.1
  have hv : validB (aroundP (cornL ps ((ps.length + 63) / 64))) = true := valid_small hc.2.1 hcn (by have := hl_len (around_hl hcn); omega)
  exact ⟨hullB_small hc.2.1 hcn (by omega), hv, by rw [b8_around hcn hv, corn_b8 hp hne]⟩
/-- A place that every half-plane has that has the given ones. -/
def linIn (ps : List Pt) (x : Pt) : Prop := ∀ α β γ : Int, (∀ y ∈ ps, 0 ≤ aff α β γ y) → 0 ≤ aff α β γ x
theorem secA_ne (a n : Nat) (lo hi : Int) : secA a n lo hi ≠ [] := fun e => by
  have := secL_len a n lo hi (n + 1)
  rw [show secL a n lo hi (n + 1) = [] from e] at this
  simp at this
theorem sec_shape {a n : Nat} {lo hi : Int} (hn : n < 32) (h : 0 ≤ lo ∧ lo ≤ hi ∧ hi ≤ 100000) : validB (secP a n lo hi) = true ∧ ∀ x, linIn (secA a n lo hi) x → hasB (secP a n lo hi) x = true := by
  have hl : (secA a n lo hi).length = 8 + 4 * (n + 1) := secL_len a n lo hi (n + 1)
  have hp : ∀ p ∈ secA a n lo hi, placeB p = true := secL_place (a := a) (n := n) h (n + 1)
  have hne := secA_ne a n lo hi
  have hh := around_hl hne
  unfold secP
  split
  · rename_i hs
    exact ⟨hh.valid hp hs, fun x hx => hl_lin hh hx⟩
  obtain ⟨_, hcv, hb⟩ := corn_all hp hne (by omega)
  obtain ⟨_, e2, _, _, _, e6⟩ := eight_spec hcv
  refine ⟨e2, fun x hx => e6 x ?_⟩
  rw [hb]
  have c := b8_has (ne_len hne)
  unfold B8.has at c
  refine ⟨?_, ?_, ?_, ?_, ?_, ?_, ?_, ?_⟩
  · have := hx 1 0 (-(b8 (secA a n lo hi)).a) (fun y hy => by have := c y hy; unfold aff; omega)
    unfold aff at this; omega
  · have := hx (-1) 0 (b8 (secA a n lo hi)).b (fun y hy => by have := c y hy; unfold aff; omega)
    unfold aff at this; omega
  · have := hx 0 1 (-(b8 (secA a n lo hi)).c) (fun y hy => by have := c y hy; unfold aff; omega)
    unfold aff at this; omega
  · have := hx 0 (-1) (b8 (secA a n lo hi)).d (fun y hy => by have := c y hy; unfold aff; omega)
    unfold aff at this; omega
  · have := hx 1 1 (-(b8 (secA a n lo hi)).s) (fun y hy => by have := c y hy; unfold aff; omega)
    unfold aff at this; omega
  · have := hx (-1) (-1) (b8 (secA a n lo hi)).t (fun y hy => by have := c y hy; unfold aff; omega)
    unfold aff at this; omega
  · have := hx 1 (-1) (-(b8 (secA a n lo hi)).u) (fun y hy => by have := c y hy; unfold aff; omega)
    unfold aff at this; omega
  · have := hx (-1) 1 (b8 (secA a n lo hi)).v (fun y hy => by have := c y hy; unfold aff; omega)
    unfold aff at this; omega
end Go.Proofs.YtlppfikkgcfaoaaGreat

/- Contract: ray.Sector. -/
namespace Go.Proofs.YtlppfikkgcfaoaaGreat
open Go Go.V Go.RowKit
theorem FnRow.mono {P : Program} {f : Nat} {args : List Value} {M : Mem} {E sz : Nat} {R R' : Nat → List Value → Mem → Prop} (h : FnRow P f args M E sz R) (hr : ∀ n xs M', R n xs M' → R' n xs M') : FnRow P f args M E sz R' :=
  ⟨h.1, fun W hW => (h.2 W hW).mono fun _ _ ⟨v, n, xs, M', k0, k1, k2, k3, k4, k5, k6, k7, k8⟩ => ⟨v, n, xs, M', k0, k1, k2, k3, k4, k5, k6, k7, hr _ _ _ k8⟩⟩
theorem two_reg {M : Mem} {x u v : Value} {ps qs : List Pt} (h : SlAt M 1 x 2 [u, v]) (hu : Pts M u ps) (hv : Pts M v qs) (iu : i64P ps) (iv : i64P qs) : RegV M x [ps, qs] :=
  ⟨[[u], [v]], rfl, by simp, h, fun i y r hy hr => by
    rcases i with _ | _ | i
    · simp at hy hr; subst hy; subst hr; exact ⟨u, rfl, hu, iu⟩
    · simp at hy hr; subst hy; subst hr; exact ⟨v, rfl, hv, iv⟩
    · simp at hy⟩
theorem concat_enters : Enters Tryz.prog 25 := Go.Proofs.enters_of Tryz.func25 rfl rfl
theorem concat_sec {M0 : Mem} {u v : Value} {a n : Nat} {lo hi : Int} (hlo : 0 ≤ lo ∧ lo ≤ 100000) (p1 : Pts M0 u (rndP (rayP a) lo 1001)) (p2 : Pts M0 v (rndP (rayP (a + n)) lo 1001)) :
    ∀ x M1, M0.le M1 → SlAt M1 1 x 2 [u, v] → FnRow Tryz.prog 25 [x] M1 23 2 fun k xs _ => k = (secL a n lo hi 0).length ∧ xs = cellsP (secL a n lo hi 0) := by
  intro x M1 hl hs
  have r := two_reg hs (p1.le hl) (p2.le hl) (mem_64 (rnd_place (ray_R a) hlo (.inr rfl))) (mem_64 (rnd_place (ray_R (a + n)) hlo (.inr rfl)))
  have e : [rndP (rayP a) lo 1001, rndP (rayP (a + n)) lo 1001].flatten = secL a n lo hi 0 := by unfold secL; simp
  refine FnRow.mono (Concat_fn x _ M1 r ?_ ?_) fun k xs M' h => ?_
  · rw [e, secL_len]; omega
  · rw [e, secL_len]; omega
  · rw [e] at h; exact ⟨h.1, h.2.1⟩
theorem cellsP_drop : ∀ (k : Nat) (ps : List Pt), (cellsP ps).drop (2 * k) = cellsP (ps.drop k)
  | 0, _ => rfl
  | _ + 1, [] => by simp [cellsP]
  | k + 1, p :: ps => by
    have := cellsP_drop k ps
    rw [show 2 * (k + 1) = 2 * k + 1 + 1 by omega]
    exact this
theorem pts_ch {M : Mem} {a : Addr} {c : Nat} {ps : List Pt} (h : Pts M (.slice (some a) ps.length c) ps) (k : Nat) : Pts M (chV a ps.length k) (chP ps k) := by
  obtain ⟨a', c', e, h1, h2, h3, h4, h5⟩ := h
  cases e
  have hl := chP_len ps k
  have ec : cellsP (chP ps k) = ((cellsP ps).drop (2 * (64 * k))).take (64 * 2) := by unfold chP; rw [cellsP_drop, cellsP_take]
  refine ⟨some (a.add (64 * k * 2)), min 64 (ps.length - 64 * k), by rw [hl]; rfl, by rw [hl]; exact Nat.le_refl _, by omega, ?_, fun v hv => ?_, fun hn => ⟨_, rfl, fun j v hj => ?_⟩⟩
  · rw [ec, List.length_take, List.length_drop, h3, hl]; omega
  · rw [ec] at hv
    exact h4 v (List.mem_of_mem_drop (List.mem_of_mem_take hv))
  · obtain ⟨ad, e, hrd⟩ := h5 (by omega)
    cases e
    rw [ec, List.getElem?_take] at hj
    split at hj
    · rw [List.getElem?_drop] at hj
      rw [Addr.add_add, show 64 * k * 2 + j = 2 * (64 * k) + j by omega]
      exact hrd _ _ hj
    · cases hj
theorem raysL_len (a n : Nat) : (raysL a n).length = n + 1 := by simp [raysL]
theorem chL_get {a : Addr} {n k : Nat} {args : List Value} (h : (chL a n)[k]? = some args) : k < (n + 63) / 64 ∧ args = [chV a n k] := by
  unfold chL at h
  rw [List.getElem?_map] at h
  by_cases hk : k < (n + 63) / 64
  · rw [List.getElem?_range hk] at h
    simp at h
    exact ⟨hk, h.symm⟩
  · rw [List.getElem?_eq_none (by simp; omega)] at h; simp at h
set_option maxRecDepth 20000 in
set_option maxHeartbeats 4000000 in
theorem Sector_fn (a n lo hi : Int) (M : Mem) : V.Fn Tryz.prog 11 [.int .i64 a, .int .i64 n, pt lo hi] M fun rs M' =>
    if secOK a n lo hi = true then ∃ u, rs = [u, .int .i64 0] ∧ Pts M' u (secP a.toNat n.toNat lo hi) else rs = [.slice none 0 0, .int .i64 1] := by
  have bad : secOK a n lo hi = false → (if secOK a n lo hi = true then ∃ u, [Value.slice none 0 0, .int .i64 1] = [u, .int .i64 0] ∧ Pts M u (secP a.toNat n.toNat lo hi) else [Value.slice none 0 0, .int .i64 1] = [.slice none 0 0, .int .i64 1]) := fun h => by rw [h]; rfl
  refine Fn.of_vc cxIOK Tryz.func11 rfl rfl rfl ?_
  repeat (first | refine VIf.tt ?_ | refine VIf.ff ?_)
  refine VOwn.frz ?_
  repeat (first | refine VIf.tt ?_ | refine VIf.ff ?_)
  refine VFn.p (areRays_fn a n M) ?_
  repeat (first | refine VIf.tt ?_ | refine VIf.ff ?_)
  refine VIf.mk (fun h0 => ?_) (fun h0 => ?_)
  · repeat (first | refine VIf.tt ?_ | refine VIf.ff ?_)
    refine VFact.mk ?_ trivial
    have e : decide (0 ≤ a ∧ a < 64 ∧ 0 ≤ n ∧ n < 32) = false := (Bool.not_eq_true' _).mp h0
    exact bad (by unfold secOK; rw [e]; rfl)
  have h0 : 0 ≤ a ∧ a < 64 ∧ 0 ≤ n ∧ n < 32 := of_decide_eq_true ((Bool.not_eq_false' _).mp h0)
  have badI : ¬ (0 ≤ lo ∧ lo ≤ hi ∧ hi ≤ 100000) → secOK a n lo hi = false := fun h => by unfold secOK; rw [decide_eq_false h, Bool.and_false]
  repeat (first | refine VIf.tt ?_ | refine VIf.ff ?_)
  refine VIf.mk (fun h1 => ?_) (fun h1 => ?_)
  · repeat (first | refine VIf.tt ?_ | refine VIf.ff ?_)
    exact VFact.mk (bad (badI fun h => by have := of_decide_eq_true h1; omega)) trivial
  repeat (first | refine VIf.tt ?_ | refine VIf.ff ?_)
  refine VIf.mk (fun h2 => ?_) (fun h2 => ?_)
  · repeat (first | refine VIf.tt ?_ | refine VIf.ff ?_)
    exact VFact.mk (bad (badI fun h => by have := of_decide_eq_true h2; omega)) trivial
  repeat (first | refine VIf.tt ?_ | refine VIf.ff ?_)
  refine VIf.mk (fun h3 => ?_) (fun h3 => ?_)
  · repeat (first | refine VIf.tt ?_ | refine VIf.ff ?_)
    exact VFact.mk (bad (badI fun h => by have := of_decide_eq_true h3; omega)) trivial
  have h1 : 0 ≤ lo := by have := of_decide_eq_false h1; omega
  have h2 : lo ≤ hi := by have := of_decide_eq_false h2; omega
  have h3 : hi ≤ 100000 := by have := of_decide_eq_false h3; omega
  have ok : secOK a n lo hi = true := by unfold secOK; rw [decide_eq_true h0, decide_eq_true (show 0 ≤ lo ∧ lo ≤ hi ∧ hi ≤ 100000 from ⟨h1, h2, h3⟩)]; rfl
  rw [ok]
  obtain ⟨a, rfl⟩ := Int.eq_ofNat_of_zero_le h0.1
  obtain ⟨n, rfl⟩ := Int.eq_ofNat_of_zero_le h0.2.2.1
  have ha : a < 64 := by omega
  have hn : n < 32 := by omega
  have hat2 : ∀ M' : Mem, FnP Tryz.prog 15 [.int .i64 ((a : Int) + (n : Int))] M' [ptv (rayP (a + n))] := fun M' => by
    have := atRay_fn (a + n) M' (by omega)
    rwa [Int.natCast_add] at this
  repeat (first | refine VIf.tt ?_ | refine VIf.ff ?_)
  refine VDraw.code ?_
  repeat (first | refine VIf.tt ?_ | refine VIf.ff ?_)
  refine VCode.draws cxIOK [5] (by kernel_rfl) (Mem × Nat)
    (fun s => ⟨[(0, .v (.int .i64 a)), (1, .v (.int .i64 n)), (5, .v (.pointer (some ⟨s.2, 0, none⟩))), (6, .box 1 0), (7, .box 2 0), (8, .box 3 0)], [(4, some (.row 23 2 (secL a n lo hi 0).length (cellsP (secL a n lo hi 0)))), (3, some (.box 34 [.row 4])), (2, some (.box 27 [.v (.int .i64 0)])), (1, some (.box 34 [.v (.slice none 0 0)]))], 5, s.1, 108, ⟨fun _ => none, none, fun _ => none⟩⟩)
    (fun s => M.le s.1 ∧ s.1 s.2 = some (.cells #[.int .i64 lo, .int .i64 hi] 25 (0, 0))) ?_ ?_
  · repeat (first | refine VIf.tt ?_ | refine VIf.ff ?_)
    refine VFzB.mk fun z1 D Mc hMc hD => ?_
    have hD : Mc D = some (.cells #[.int .i64 lo, .int .i64 hi] 25 (0, 0)) := hD
    repeat (first | refine VIf.tt ?_ | refine VIf.ff ?_)
    refine VRead.mk _ (cellAt hD 0 rfl) ?_
    repeat (first | refine VIf.tt ?_ | refine VIf.ff ?_)
    refine VArith.ok (by first | omega | (simp only; omega)) (by first | omega | (simp only; omega)) ?_
    repeat (first | refine VIf.tt ?_ | refine VIf.ff ?_)
    refine VRead.mk _ (cellAt hD 0 rfl) ?_
    have hc := Mem.le_refl Mc
    refine VBoth.mk ?_ ?_
    · repeat (first | refine VIf.tt ?_ | refine VIf.ff ?_)
      refine VOwn.frz ?_
      repeat (first | refine VIf.tt ?_ | refine VIf.ff ?_)
      refine VFn.p (atRay_fn a Mc (by omega)) ?_
      repeat (first | refine VIf.tt ?_ | refine VIf.ff ?_)
      refine VFact.mk hc ?_
      refine VBoth.mk ?_ ?_
      · repeat (first | refine VIf.tt ?_ | refine VIf.ff ?_)
        refine VOwn.frz ?_
        repeat (first | refine VIf.tt ?_ | refine VIf.ff ?_)
        refine VFn.mk _ (rounded_fn (rayP a) lo 1001 Mc (ray_R a) ⟨h1, by omega⟩ (by decide)) ?_
        rintro rs Mc hn ⟨u1, rfl, p1⟩
        have hc := Mem.le.trans hc hn
        obtain ⟨d1, k1, rfl⟩ := p1.shape
        try have p2 := p2.le hn
        repeat (first | refine VIf.tt ?_ | refine VIf.ff ?_)
        refine VFact.mk hc ?_
        refine VBoth.mk ?_ ?_
        · repeat (first | refine VIf.tt ?_ | refine VIf.ff ?_)
          refine VOwn.frz ?_
          repeat (first | refine VIf.tt ?_ | refine VIf.ff ?_)
          refine VFn.p (hat2 Mc) ?_
          repeat (first | refine VIf.tt ?_ | refine VIf.ff ?_)
          refine VFact.mk hc ?_
          refine VBoth.mk ?_ ?_
          · repeat (first | refine VIf.tt ?_ | refine VIf.ff ?_)
            refine VOwn.frz ?_
            repeat (first | refine VIf.tt ?_ | refine VIf.ff ?_)
            refine VFn.mk _ (rounded_fn (rayP (a + n)) lo 1001 Mc (ray_R (a + n)) ⟨h1, by omega⟩ (by decide)) ?_
            rintro rs Mc hn ⟨u2, rfl, p2⟩
            have hc := Mem.le.trans hc hn
            obtain ⟨d2, k2, rfl⟩ := p2.shape
            try have p1 := p1.le hn
            repeat (first | refine VIf.tt ?_ | refine VIf.ff ?_)
            refine VFact.mk hc ?_
            refine VBoth.mk ?_ ?_
            · repeat (first | refine VIf.tt ?_ | refine VIf.ff ?_)
              refine VFact.mk hc ?_
              refine VBoth.mk ?_ ?_
              · repeat (first | refine VIf.tt ?_ | refine VIf.ff ?_)
                refine VOwn.own ?_
                refine VCall.ofRow1 rfl concat_enters (concat_sec (hi := hi) ⟨h1, by omega⟩ p1 p2) ?_
                rintro nn xs Mc hn ⟨rfl, rfl⟩
                have hc := Mem.le.trans hc hn
                repeat (first | refine VIf.tt ?_ | refine VIf.ff ?_)
                refine VFact.mk hc ?_
                repeat (first | refine VIf.tt ?_ | refine VIf.ff ?_)
                refine VFact.mk hc ?_
                repeat (first | refine VIf.tt ?_ | refine VIf.ff ?_)
                refine VFact.mk hc ?_
                exact ⟨(Mc, D), ⟨hMc.trans hc, hc _ _ hD⟩, (Wk.mk' (fun k => if k = 3 then 3 + 1 + 1 else if k = 4 then 4 else k) (by repeat' constructor) (by repeat' constructor) (by simp [injOK]) rfl rfl rfl)⟩
              · repeat (first | refine VIf.tt ?_ | refine VIf.ff ?_)
                refine VFact.mk hc ?_
                repeat (first | refine VIf.tt ?_ | refine VIf.ff ?_)
                refine VOwn.own ?_
                refine VCall.ofRow1 rfl concat_enters (concat_sec (hi := hi) ⟨h1, by omega⟩ p1 p2) ?_
                rintro nn xs Mc hn ⟨rfl, rfl⟩
                have hc := Mem.le.trans hc hn
                repeat (first | refine VIf.tt ?_ | refine VIf.ff ?_)
                refine VFact.mk hc ?_
                repeat (first | refine VIf.tt ?_ | refine VIf.ff ?_)
                refine VFact.mk hc ?_
                exact ⟨(Mc, D), ⟨hMc.trans hc, hc _ _ hD⟩, (Wk.mk' (fun k => if k = 3 then 3 + 1 + 0 else if k = 4 then 5 else k) (by repeat' constructor) (by repeat' constructor) (by simp [injOK]) rfl rfl rfl)⟩
            · repeat (first | refine VIf.tt ?_ | refine VIf.ff ?_)
              refine VFact.mk hc ?_
              repeat (first | refine VIf.tt ?_ | refine VIf.ff ?_)
              refine VFact.mk hc ?_
              repeat (first | refine VIf.tt ?_ | refine VIf.ff ?_)
              refine VOwn.own ?_
              refine VCall.ofRow1 rfl concat_enters (concat_sec (hi := hi) ⟨h1, by omega⟩ p1 p2) ?_
              rintro nn xs Mc hn ⟨rfl, rfl⟩
              have hc := Mem.le.trans hc hn
              repeat (first | refine VIf.tt ?_ | refine VIf.ff ?_)
              refine VFact.mk hc ?_
              repeat (first | refine VIf.tt ?_ | refine VIf.ff ?_)
              refine VFact.mk hc ?_
              exact ⟨(Mc, D), ⟨hMc.trans hc, hc _ _ hD⟩, (Wk.mk' (fun k => if k = 3 then 3 + 0 + 0 else if k = 4 then 5 else k) (by repeat' constructor) (by repeat' constructor) (by simp [injOK]) rfl rfl rfl)⟩
          · repeat (first | refine VIf.tt ?_ | refine VIf.ff ?_)
            refine VFact.mk hc ?_
            repeat (first | refine VIf.tt ?_ | refine VIf.ff ?_)
            refine VOwn.frz ?_
            repeat (first | refine VIf.tt ?_ | refine VIf.ff ?_)
            refine VFn.mk _ (rounded_fn (rayP (a + n)) lo 1001 Mc (ray_R (a + n)) ⟨h1, by omega⟩ (by decide)) ?_
            rintro rs Mc hn ⟨u2, rfl, p2⟩
            have hc := Mem.le.trans hc hn
            obtain ⟨d2, k2, rfl⟩ := p2.shape
            try have p1 := p1.le hn
            repeat (first | refine VIf.tt ?_ | refine VIf.ff ?_)
            refine VFact.mk hc ?_
            repeat (first | refine VIf.tt ?_ | refine VIf.ff ?_)
            refine VFact.mk hc ?_
            repeat (first | refine VIf.tt ?_ | refine VIf.ff ?_)
            refine VOwn.own ?_
            refine VCall.ofRow1 rfl concat_enters (concat_sec (hi := hi) ⟨h1, by omega⟩ p1 p2) ?_
            rintro nn xs Mc hn ⟨rfl, rfl⟩
            have hc := Mem.le.trans hc hn
            repeat (first | refine VIf.tt ?_ | refine VIf.ff ?_)
            refine VFact.mk hc ?_
            repeat (first | refine VIf.tt ?_ | refine VIf.ff ?_)
            refine VFact.mk hc ?_
            exact ⟨(Mc, D), ⟨hMc.trans hc, hc _ _ hD⟩, (Wk.mk' (fun k => if k = 3 then 3 + 0 + 0 else if k = 4 then 5 else k) (by repeat' constructor) (by repeat' constructor) (by simp [injOK]) rfl rfl rfl)⟩
        · repeat (first | refine VIf.tt ?_ | refine VIf.ff ?_)
          refine VFact.mk hc ?_
          repeat (first | refine VIf.tt ?_ | refine VIf.ff ?_)
          refine VOwn.frz ?_
          repeat (first | refine VIf.tt ?_ | refine VIf.ff ?_)
          refine VFn.p (hat2 Mc) ?_
          repeat (first | refine VIf.tt ?_ | refine VIf.ff ?_)
          refine VFact.mk hc ?_
          repeat (first | refine VIf.tt ?_ | refine VIf.ff ?_)
          refine VOwn.frz ?_
          repeat (first | refine VIf.tt ?_ | refine VIf.ff ?_)
          refine VFn.mk _ (rounded_fn (rayP (a + n)) lo 1001 Mc (ray_R (a + n)) ⟨h1, by omega⟩ (by decide)) ?_
          rintro rs Mc hn ⟨u2, rfl, p2⟩
          have hc := Mem.le.trans hc hn
          obtain ⟨d2, k2, rfl⟩ := p2.shape
          try have p1 := p1.le hn
          repeat (first | refine VIf.tt ?_ | refine VIf.ff ?_)
          refine VFact.mk hc ?_
          repeat (first | refine VIf.tt ?_ | refine VIf.ff ?_)
          refine VFact.mk hc ?_
          repeat (first | refine VIf.tt ?_ | refine VIf.ff ?_)
          refine VOwn.own ?_
          refine VCall.ofRow1 rfl concat_enters (concat_sec (hi := hi) ⟨h1, by omega⟩ p1 p2) ?_
          rintro nn xs Mc hn ⟨rfl, rfl⟩
          have hc := Mem.le.trans hc hn
          repeat (first | refine VIf.tt ?_ | refine VIf.ff ?_)
          refine VFact.mk hc ?_
          repeat (first | refine VIf.tt ?_ | refine VIf.ff ?_)
          refine VFact.mk hc ?_
          exact ⟨(Mc, D), ⟨hMc.trans hc, hc _ _ hD⟩, (Wk.mk' (fun k => if k = 3 then 3 + 0 + 0 else if k = 4 then 5 else k) (by repeat' constructor) (by repeat' constructor) (by simp [injOK]) rfl rfl rfl)⟩
      · repeat (first | refine VIf.tt ?_ | refine VIf.ff ?_)
        refine VFact.mk hc ?_
        repeat (first | refine VIf.tt ?_ | refine VIf.ff ?_)
        refine VOwn.frz ?_
        repeat (first | refine VIf.tt ?_ | refine VIf.ff ?_)
        refine VFn.mk _ (rounded_fn (rayP a) lo 1001 Mc (ray_R a) ⟨h1, by omega⟩ (by decide)) ?_
        rintro rs Mc hn ⟨u1, rfl, p1⟩
        have hc := Mem.le.trans hc hn
        obtain ⟨d1, k1, rfl⟩ := p1.shape
        try have p2 := p2.le hn
        repeat (first | refine VIf.tt ?_ | refine VIf.ff ?_)
        refine VFact.mk hc ?_
        repeat (first | refine VIf.tt ?_ | refine VIf.ff ?_)
        refine VOwn.frz ?_
        repeat (first | refine VIf.tt ?_ | refine VIf.ff ?_)
        refine VFn.p (hat2 Mc) ?_
        repeat (first | refine VIf.tt ?_ | refine VIf.ff ?_)
        refine VFact.mk hc ?_
        repeat (first | refine VIf.tt ?_ | refine VIf.ff ?_)
        refine VOwn.frz ?_
        repeat (first | refine VIf.tt ?_ | refine VIf.ff ?_)
        refine VFn.mk _ (rounded_fn (rayP (a + n)) lo 1001 Mc (ray_R (a + n)) ⟨h1, by omega⟩ (by decide)) ?_
        rintro rs Mc hn ⟨u2, rfl, p2⟩
        have hc := Mem.le.trans hc hn
        obtain ⟨d2, k2, rfl⟩ := p2.shape
        try have p1 := p1.le hn
        repeat (first | refine VIf.tt ?_ | refine VIf.ff ?_)
        refine VFact.mk hc ?_
        repeat (first | refine VIf.tt ?_ | refine VIf.ff ?_)
        refine VFact.mk hc ?_
        repeat (first | refine VIf.tt ?_ | refine VIf.ff ?_)
        refine VOwn.own ?_
        refine VCall.ofRow1 rfl concat_enters (concat_sec (hi := hi) ⟨h1, by omega⟩ p1 p2) ?_
        rintro nn xs Mc hn ⟨rfl, rfl⟩
        have hc := Mem.le.trans hc hn
        repeat (first | refine VIf.tt ?_ | refine VIf.ff ?_)
        refine VFact.mk hc ?_
        repeat (first | refine VIf.tt ?_ | refine VIf.ff ?_)
        refine VFact.mk hc ?_
        exact ⟨(Mc, D), ⟨hMc.trans hc, hc _ _ hD⟩, (Wk.mk' (fun k => if k = 3 then 3 + 0 + 0 else if k = 4 then 5 else k) (by repeat' constructor) (by repeat' constructor) (by simp [injOK]) rfl rfl rfl)⟩
    · repeat (first | refine VIf.tt ?_ | refine VIf.ff ?_)
      refine VFact.mk hc ?_
      repeat (first | refine VIf.tt ?_ | refine VIf.ff ?_)
      refine VOwn.frz ?_
      repeat (first | refine VIf.tt ?_ | refine VIf.ff ?_)
      refine VFn.p (atRay_fn a Mc (by omega)) ?_
      repeat (first | refine VIf.tt ?_ | refine VIf.ff ?_)
      refine VFact.mk hc ?_
      repeat (first | refine VIf.tt ?_ | refine VIf.ff ?_)
      refine VOwn.frz ?_
      repeat (first | refine VIf.tt ?_ | refine VIf.ff ?_)
      refine VFn.mk _ (rounded_fn (rayP a) lo 1001 Mc (ray_R a) ⟨h1, by omega⟩ (by decide)) ?_
      rintro rs Mc hn ⟨u1, rfl, p1⟩
      have hc := Mem.le.trans hc hn
      obtain ⟨d1, k1, rfl⟩ := p1.shape
      try have p2 := p2.le hn
      repeat (first | refine VIf.tt ?_ | refine VIf.ff ?_)
      refine VFact.mk hc ?_
      repeat (first | refine VIf.tt ?_ | refine VIf.ff ?_)
      refine VOwn.frz ?_
      repeat (first | refine VIf.tt ?_ | refine VIf.ff ?_)
      refine VFn.p (hat2 Mc) ?_
      repeat (first | refine VIf.tt ?_ | refine VIf.ff ?_)
      refine VFact.mk hc ?_
      repeat (first | refine VIf.tt ?_ | refine VIf.ff ?_)
      refine VOwn.frz ?_
      repeat (first | refine VIf.tt ?_ | refine VIf.ff ?_)
      refine VFn.mk _ (rounded_fn (rayP (a + n)) lo 1001 Mc (ray_R (a + n)) ⟨h1, by omega⟩ (by decide)) ?_
      rintro rs Mc hn ⟨u2, rfl, p2⟩
      have hc := Mem.le.trans hc hn
      obtain ⟨d2, k2, rfl⟩ := p2.shape
      try have p1 := p1.le hn
      repeat (first | refine VIf.tt ?_ | refine VIf.ff ?_)
      refine VFact.mk hc ?_
      repeat (first | refine VIf.tt ?_ | refine VIf.ff ?_)
      refine VFact.mk hc ?_
      repeat (first | refine VIf.tt ?_ | refine VIf.ff ?_)
      refine VOwn.own ?_
      refine VCall.ofRow1 rfl concat_enters (concat_sec (hi := hi) ⟨h1, by omega⟩ p1 p2) ?_
      rintro nn xs Mc hn ⟨rfl, rfl⟩
      have hc := Mem.le.trans hc hn
      repeat (first | refine VIf.tt ?_ | refine VIf.ff ?_)
      refine VFact.mk hc ?_
      repeat (first | refine VIf.tt ?_ | refine VIf.ff ?_)
      refine VFact.mk hc ?_
      exact ⟨(Mc, D), ⟨hMc.trans hc, hc _ _ hD⟩, (Wk.mk' (fun k => if k = 3 then 3 + 0 + 0 else if k = 4 then 5 else k) (by repeat' constructor) (by repeat' constructor) (by simp [injOK]) rfl rfl rfl)⟩
  rintro ⟨M2, D⟩ m ⟨hM2, hD⟩
  simp only at hM2 hD
  repeat (first | refine VIf.tt ?_ | refine VIf.ff ?_)
  repeat (first | refine VIf.tt ?_ | refine VIf.ff ?_)
  refine VOwn.frz ?_
  repeat (first | refine VIf.tt ?_ | refine VIf.ff ?_)
  refine VFn.mk _ (rays_fn a n M2) ?_
  rintro rs M3 hM3 ⟨B1, B2, rfl, hB1, hB2⟩
  repeat (first | refine VIf.tt ?_ | refine VIf.ff ?_)
  refine VCode.rangeB cxIOK rfl (rays_iter a n ha hn M3 B1 B2 hB1 hB2) (fun x hx => ?_) [(5, .v (.pointer (some ⟨D, 0, none⟩))), (6, .box 1 0), (7, .box 2 0), (8, .box 3 0)] rfl (by kernel_rfl) (by kernel_rfl) Mem
    (fun k M' => ⟨[(5, .v (.pointer (some ⟨D, 0, none⟩))), (6, .box 1 0), (7, .box 2 0), (8, .box 3 0)], [(4, some (.row 23 2 (secL a n lo hi k).length (cellsP (secL a n lo hi k)))), (3, some (.box 34 [.row 4])), (2, some (.box 27 [.v (.int .i64 0)])), (1, some (.box 34 [.v (.slice none 0 0)]))], 5, M', 108, ⟨fun _ => none, none, fun _ => none⟩⟩)
    (fun k M' => M3.le M' ∧ k ≤ n + 1) M3 ⟨Mem.le_refl _, Nat.zero_le _⟩ (Wk.mk' id (by repeat' constructor) (by repeat' constructor) (injOK_id _) rfl rfl rfl) (fun k s => ⟨rfl, rfl⟩) ?_ ?_
  · simp only [raysL, List.mem_map] at hx
    obtain ⟨k, _, rfl⟩ := hx
    rfl
  · rintro k M4 args ⟨hM4, _⟩ hxs m f
    obtain ⟨hk, rfl⟩ := raysL_get hxs
    intro m'
    repeat (first | refine VIf.tt ?_ | refine VIf.ff ?_)
    refine VDraw.go (by kernel_rfl) ?_
    repeat (first | refine VIf.tt ?_ | refine VIf.ff ?_)
    refine VRead.mk _ (cellAt (hM4 _ _ (hM3 _ _ hD)) 1 rfl) ?_
    repeat (first | refine VIf.tt ?_ | refine VIf.ff ?_)
    refine VFn.mk _ (rounded_fn (rayP (a + k)) hi 998 M4 (ray_R _) ⟨by omega, h3⟩ (by decide)) ?_
    rintro rs M5 hM5 ⟨u, rfl, hu⟩
    obtain ⟨ud, uc, rfl⟩ := hu.shape
    repeat (first | refine VIf.tt ?_ | refine VIf.ff ?_)
    refine VSl.mk 4 (cellsP (rndP (rayP (a + k)) hi 998)) hu ?_
    have hkl := secL_len a n lo hi k
    repeat (first | refine VIf.tt ?_ | refine VIf.ff ?_)
    refine VFact.mk (by show (_ + 4) * 16 ≤ _; omega) ?_
    refine ⟨M5, ⟨hM4.trans hM5, by omega⟩, Wk.mk' (fun k => if k = 4 then 6 else k) (by repeat' constructor) ⟨⟨rfl, ⟨rfl, rfl, ?_, ?_⟩⟩, ⟨rfl, by repeat' constructor⟩, ⟨rfl, by repeat' constructor⟩, ⟨rfl, by repeat' constructor⟩, trivial⟩ (by simp [injOK]) rfl rfl rfl⟩
    · rw [secL_len, secL_len]; omega
    · rw [secL_step]; simp [cellsP]
  · rintro M5 m ⟨hM5, _⟩
    have hsec : secL a n lo hi (raysL a n).length = secA a n lo hi := by rw [raysL_len]; rfl
    repeat (first | refine VIf.tt ?_ | refine VIf.ff ?_)
    refine VOwn.frz ?_
    repeat (first | refine VIf.tt ?_ | refine VIf.ff ?_)
    refine VFz.mk fun xs Bx M6 hM6 hxs => ?_
    have hxs : Pts M6 xs (secA a n lo hi) := by rw [← hsec]; exact hxs
    have hpl : ∀ p ∈ secA a n lo hi, placeB p = true := secL_place ⟨h1, h2, h3⟩ (n + 1)
    have hll : (secA a n lo hi).length = 8 + 4 * (n + 1) := secL_len a n lo hi (n + 1)
    have hne := secA_ne a n lo hi
    have hHu := hullB_mid hpl hne (by omega)
    obtain ⟨ad, c, rfl⟩ := hxs.shape
    by_cases hs : (aroundP (secA a n lo hi)).length ≤ 64
    · rw [if_pos hs] at hHu
      repeat (first | refine VIf.tt ?_ | refine VIf.ff ?_)
      refine VFn.mk _ (Hull_is hxs (mem_64 hpl) hHu) ?_
      rintro rs M7 hM7 ⟨u, rfl, hu⟩
      obtain ⟨ud, uc, rfl⟩ := hu.shape
      have fin : if true = true then ∃ u', [Value.slice ud (aroundP (secA a n lo hi)).length uc, Value.int .i64 0] = [u', Value.int .i64 0] ∧ Pts M7 u' (secP (a : Int).toNat (n : Int).toNat lo hi) else [Value.slice ud (aroundP (secA a n lo hi)).length uc, Value.int .i64 0] = [Value.slice none 0 0, Value.int .i64 1] := ⟨_, rfl, by
        show Pts M7 _ (secP a n lo hi)
        unfold secP; rw [if_pos hs]; exact hu⟩
      repeat (first | refine VIf.tt ?_ | refine VIf.ff ?_)
      exact VFact.mk fin trivial
    · rw [if_neg hs] at hHu
      repeat (first | refine VIf.tt ?_ | refine VIf.ff ?_)
      refine VFn.mk _ (Hull_is hxs (mem_64 hpl) hHu) ?_
      rintro rs M7 hM7 ⟨u, rfl, hu⟩
      obtain ⟨ad, rfl⟩ := SlAt.some hxs (by omega)
      have hcap : (secA a n lo hi).length ≤ c := by obtain ⟨_, _, e, h, _⟩ := hxs; cases e; exact h
      repeat (first | refine VIf.tt ?_ | refine VIf.ff ?_)
      refine VOwn.frz ?_
      repeat (first | refine VIf.tt ?_ | refine VIf.ff ?_)
      refine VFn.mk _ (Chunk_fn (some ad) (secA a n lo hi).length c M7) ?_
      rintro rs M8 hM8 ⟨B3, B4, rfl, hB3, hB4⟩
      have hxs8 := hxs.le (hM7.trans hM8)
      obtain ⟨hHc, hVc, _⟩ := corn_all hpl hne (by omega)
      repeat (first | refine VIf.tt ?_ | refine VIf.ff ?_)
      refine VCode.rangeB cxIOK rfl (chunk_iter ad (secA a n lo hi).length c hcap (by omega) M8 B3 B4 hB3 hB4) (fun x hx => ?_) [(6, .box 1 0), (7, .box 2 0), (13, .box 5 0)] rfl (by kernel_rfl) (by kernel_rfl) Mem
        (fun k M' => ⟨[(6, .box 1 0), (7, .box 2 0), (13, .box 5 0)], [(6, some (.row 23 2 (cornL (secA a n lo hi) k).length (cellsP (cornL (secA a n lo hi) k)))), (5, some (.box 34 [.row 6])), (2, some (.box 27 [.v (.int .i64 0)])), (1, some (.box 34 [.v (.slice none 0 0)]))], 7, M', 108, ⟨fun _ => none, none, fun _ => none⟩⟩)
        (fun k M' => M8.le M' ∧ k ≤ ((secA a n lo hi).length + 63) / 64) M8 ⟨Mem.le_refl _, Nat.zero_le _⟩ ?_ (fun k s => ⟨rfl, rfl⟩) ?_ ?_
      · simp only [chL, List.mem_map] at hx
        obtain ⟨k, _, rfl⟩ := hx
        rfl
      · exact Wk.nilBox 5 34 [] [] 23 2 rfl (Wk.mk' id (by repeat' constructor) (by repeat' constructor) (injOK_id _) rfl rfl rfl)
      · rintro k M9 args ⟨hM9, _⟩ hxs' m f
        obtain ⟨hk, rfl⟩ := chL_get hxs'
        intro m'
        have hpc := (pts_ch (hxs8.le hM9)) k
        have hcp : ∀ p ∈ chP (secA a n lo hi) k, placeB p = true := fun p hp => hpl p (chP_sub p hp)
        obtain ⟨hHk, hVk⟩ := ch_valid hpl hk
        obtain ⟨e1, e2, e3, _⟩ := eight_spec hVk
        repeat (first | refine VIf.tt ?_ | refine VIf.ff ?_)
        refine VOwn.frz ?_
        repeat (first | refine VIf.tt ?_ | refine VIf.ff ?_)
        refine VFn.mk _ (Hull_is hpc (mem_64 hcp) hHk) ?_
        rintro rs M10 hM10 ⟨q, rfl, hq⟩
        repeat (first | refine VIf.tt ?_ | refine VIf.ff ?_)
        refine VOwn.frz ?_
        repeat (first | refine VIf.tt ?_ | refine VIf.ff ?_)
        refine VFn.mk _ (Eight_is hq (mem_64 (valid_mem hVk)) hVk rfl) ?_
        rintro rs M11 hM11 ⟨o, rfl, ho⟩
        obtain ⟨od, oc, rfl⟩ := ho.shape
        have hcs := cornL_spec hpl k (by omega)
        repeat (first | refine VIf.tt ?_ | refine VIf.ff ?_)
        refine VSl.mk (eightP (aroundP (chP (secA a n lo hi) k))).length (cellsP (eightP (aroundP (chP (secA a n lo hi) k)))) ho ?_
        repeat (first | refine VIf.tt ?_ | refine VIf.ff ?_)
        refine VFact.mk (by show (_ + _) * 16 ≤ _; omega) ?_
        refine ⟨M11, ⟨hM9.trans (hM10.trans hM11), hk⟩, Wk.mk' (fun k => if k = 6 then 7 else k) (by repeat' constructor) ⟨⟨rfl, ⟨rfl, rfl, ?_, ?_⟩⟩, ⟨rfl, by repeat' constructor⟩, ⟨rfl, by repeat' constructor⟩, ⟨rfl, by repeat' constructor⟩, trivial⟩ (by simp [injOK]) rfl rfl rfl⟩
        · rw [cornL_step, List.length_append]
        · rw [cornL_step]; simp [cellsP]
      · rintro M9 m ⟨hM9, _⟩
        have hcl : cornL (secA a n lo hi) (chL ad (secA a n lo hi).length).length = cornL (secA a n lo hi) (((secA a n lo hi).length + 63) / 64) := by rw [show (chL ad (secA a n lo hi).length).length = ((secA a n lo hi).length + 63) / 64 by simp [chL]]
        repeat (first | refine VIf.tt ?_ | refine VIf.ff ?_)
        refine VOwn.frz ?_
        repeat (first | refine VIf.tt ?_ | refine VIf.ff ?_)
        refine VFz.mk fun ys By M10 hM10 hys => ?_
        have hys : Pts M10 ys (cornL (secA a n lo hi) (((secA a n lo hi).length + 63) / 64)) := by rw [← hcl]; exact hys
        have hcs := cornL_spec hpl _ (Nat.le_refl (((secA a n lo hi).length + 63) / 64))
        repeat (first | refine VIf.tt ?_ | refine VIf.ff ?_)
        refine VFn.mk _ (Hull_is hys (mem_64 hcs.2.1) hHc) ?_
        rintro rs M11 hM11 ⟨q, rfl, hq⟩
        repeat (first | refine VIf.tt ?_ | refine VIf.ff ?_)
        refine VOwn.frz ?_
        repeat (first | refine VIf.tt ?_ | refine VIf.ff ?_)
        refine VFn.mk _ (Eight_is hq (mem_64 (valid_mem hVc)) hVc rfl) ?_
        rintro rs M12 hM12 ⟨o, rfl, ho⟩
        obtain ⟨od, oc, rfl⟩ := ho.shape
        have fin : if true = true then ∃ u', [Value.slice od (eightP (aroundP (cornL (secA a n lo hi) (((secA a n lo hi).length + 63) / 64)))).length oc, Value.int .i64 0] = [u', Value.int .i64 0] ∧ Pts M12 u' (secP (a : Int).toNat (n : Int).toNat lo hi) else [Value.slice od (eightP (aroundP (cornL (secA a n lo hi) (((secA a n lo hi).length + 63) / 64)))).length oc, Value.int .i64 0] = [Value.slice none 0 0, Value.int .i64 1] := ⟨_, rfl, by
          show Pts M12 _ (secP a n lo hi)
          unfold secP; rw [if_neg hs]; exact ho⟩
        repeat (first | refine VIf.tt ?_ | refine VIf.ff ?_)
        exact VFact.mk fin trivial
end Go.Proofs.YtlppfikkgcfaoaaGreat

/- Sectors, plainly: a place between two rays, its distance within the span, is in the hull of the rounded places. -/
namespace Go.Proofs.YtlppfikkgcfaoaaGreat
open Go
theorem flo_cei {c n d : Int} (hd : 0 < d) : d * flo c n d ≤ c * n ∧ c * n ≤ d * cei c n d := by
  unfold flo cei
  have h1 := Int.mul_ediv_self_le (x := c * n) (k := d) (by omega)
  have h2 := Int.mul_ediv_self_le (x := -(c * n)) (k := d) (by omega)
  rw [Int.mul_neg]
  exact ⟨h1, by omega⟩
theorem lin_pick {α x d f c : Int} (h1 : d * f ≤ x) (h2 : x ≤ d * c) : ∃ X, (X = f ∨ X = c) ∧ d * (α * X) ≤ α * x := by
  by_cases h : 0 ≤ α
  · have := Int.mul_le_mul_of_nonneg_left h1 h
    refine ⟨f, .inl rfl, ?_⟩
    have e : d * (α * f) = α * (d * f) := by grind
    omega
  · have := Int.mul_le_mul_of_nonneg_left h2 (show 0 ≤ -α by omega)
    refine ⟨c, .inr rfl, ?_⟩
    have e : d * (α * c) = -(-α * (d * c)) := by grind
    have e2 : -α * x = -(α * x) := by grind
    omega
theorem rnd_lin {t : Pt} {n d α β γ : Int} (hd : 0 < d) (h : ∀ y ∈ rndP t n d, 0 ≤ aff α β γ y) : 0 ≤ n * (α * t.1 + β * t.2) + d * γ := by
  obtain ⟨a1, a2⟩ := flo_cei (c := t.1) (n := n) hd
  obtain ⟨b1, b2⟩ := flo_cei (c := t.2) (n := n) hd
  obtain ⟨X, hX, eX⟩ := lin_pick (α := α) a1 a2
  obtain ⟨Y, hY, eY⟩ := lin_pick (α := β) b1 b2
  have hm : (X, Y) ∈ rndP t n d := by
    rcases hX with rfl | rfl <;> rcases hY with rfl | rfl <;> simp [rndP]
  have := h _ hm
  unfold aff at this
  simp only at this
  have h2 := Int.mul_nonneg (Int.le_of_lt hd) this
  have e : d * (α * X + β * Y + γ) = d * (α * X) + d * (β * Y) + d * γ := by grind
  have e2 : n * (α * t.1 + β * t.2) = α * (t.1 * n) + β * (t.2 * n) := by grind
  omega
theorem sq_le {a b : Int} (hb : 0 ≤ b) (h : a * a ≤ b * b) : a ≤ b := Int.not_lt.1 fun hl => by
  have := Int.mul_pos (show 0 < a - b by omega) (show 0 < a + b by omega)
  have e : (a - b) * (a + b) = a * a - b * b := by grind
  omega
theorem form_nonneg {A B p q r : Int} (hA : 0 ≤ A) (hB : 0 ≤ B) (hp : 0 ≤ p) (hr : 0 ≤ r) (h1 : -q ≤ p) (h2 : -q ≤ r) : 0 ≤ A * A * p + 2 * (A * B * q) + B * B * r := by
  by_cases hq : 0 ≤ q
  · have a := Int.mul_nonneg (Int.mul_nonneg hA hA) hp
    have b := Int.mul_nonneg (Int.mul_nonneg hA hB) hq
    have c := Int.mul_nonneg (Int.mul_nonneg hB hB) hr
    omega
  · have a := Int.mul_nonneg (Int.mul_nonneg hA hA) (show 0 ≤ p + q by omega)
    have c := Int.mul_nonneg (Int.mul_nonneg hB hB) (show 0 ≤ r + q by omega)
    have b : 0 ≤ -q * ((A - B) * (A - B)) := Int.mul_nonneg (by omega) (by
      rcases Int.le_total 0 (A - B) with h | h
      · exact Int.mul_nonneg h h
      · have := Int.mul_nonneg (show 0 ≤ -(A - B) by omega) (show 0 ≤ -(A - B) by omega)
        rwa [Int.neg_mul_neg] at this)
    have e : A * A * p + 2 * (A * B * q) + B * B * r = A * A * (p + q) + B * B * (r + q) + -q * ((A - B) * (A - B)) := by grind
    omega
def nsq (v : Pt) : Int := v.1 * v.1 + v.2 * v.2
theorem nsq_comb {P Q v : Pt} {A B D : Int} (e1 : D * v.1 = A * P.1 + B * Q.1) (e2 : D * v.2 = A * P.2 + B * Q.2) : D * D * nsq v = A * A * dot2 P P + 2 * (A * B * dot2 P Q) + B * B * dot2 Q Q := by
  have e : D * D * nsq v = (D * v.1) * (D * v.1) + (D * v.2) * (D * v.2) := by unfold nsq; grind
  rw [e, e1, e2]
  unfold dot2
  grind
theorem sq_nonneg (a : Int) : 0 ≤ a * a := by
  rcases Int.le_total 0 a with h | h
  · exact Int.mul_nonneg h h
  · have := Int.mul_nonneg (show 0 ≤ -a by omega) (show 0 ≤ -a by omega)
    rwa [Int.neg_mul_neg] at this
theorem outer_le {P Q v : Pt} {A B D hi : Int} (hA : 0 ≤ A) (hB : 0 ≤ B) (hD : 0 ≤ D) (hh : 0 ≤ hi) (e1 : D * v.1 = A * P.1 + B * Q.1) (e2 : D * v.2 = A * P.2 + B * Q.2) (hv : nsq v ≤ hi * hi)
    (t1 : 996004 ≤ dot2 P P) (t2 : 996004 ≤ dot2 Q Q) (t3 : 1992008 ≤ dot2 P P + dot2 P Q) (t4 : 1992008 ≤ dot2 Q Q + dot2 P Q) : 998 * (A + B) ≤ D * hi := by
  refine sq_le (Int.mul_nonneg hD hh) ?_
  have h1 := Int.mul_le_mul_of_nonneg_left hv (sq_nonneg D)
  rw [nsq_comb e1 e2] at h1
  have h2 := form_nonneg (A := A) (B := B) (p := dot2 P P - 996004) (q := dot2 P Q - 996004) (r := dot2 Q Q - 996004) hA hB (by omega) (by omega) (by omega) (by omega)
  have e3 : A * A * (dot2 P P - 996004) + 2 * (A * B * (dot2 P Q - 996004)) + B * B * (dot2 Q Q - 996004) = A * A * dot2 P P + 2 * (A * B * dot2 P Q) + B * B * dot2 Q Q - 998 * (A + B) * (998 * (A + B)) := by grind
  have e4 : D * hi * (D * hi) = D * D * (hi * hi) := by grind
  omega
theorem inner_le {P Q v : Pt} {A B D lo : Int} (hA : 0 ≤ A) (hB : 0 ≤ B) (e1 : D * v.1 = A * P.1 + B * Q.1) (e2 : D * v.2 = A * P.2 + B * Q.2) (hv : lo * lo ≤ nsq v)
    (t1 : dot2 P P ≤ 1002001) (t2 : dot2 Q Q ≤ 1002001) : D * lo ≤ 1001 * (A + B) := by
  refine sq_le (by omega) ?_
  have h1 := Int.mul_le_mul_of_nonneg_left hv (sq_nonneg D)
  rw [nsq_comb e1 e2] at h1
  have t3 : 2 * dot2 P Q ≤ dot2 P P + dot2 Q Q := by
    have a := sq_nonneg (P.1 - Q.1)
    have b := sq_nonneg (P.2 - Q.2)
    have e : (P.1 - Q.1) * (P.1 - Q.1) + (P.2 - Q.2) * (P.2 - Q.2) = dot2 P P + dot2 Q Q - 2 * dot2 P Q := by unfold dot2; grind
    omega
  have a := Int.mul_nonneg (Int.mul_nonneg hA hA) (show 0 ≤ 1002001 - dot2 P P by omega)
  have b := Int.mul_nonneg (Int.mul_nonneg hA hB) (show 0 ≤ 1002001 - dot2 P Q by omega)
  have c := Int.mul_nonneg (Int.mul_nonneg hB hB) (show 0 ≤ 1002001 - dot2 Q Q by omega)
  have e3 : A * A * (1002001 - dot2 P P) + 2 * (A * B * (1002001 - dot2 P Q)) + B * B * (1002001 - dot2 Q Q) = 1001 * (A + B) * (1001 * (A + B)) - (A * A * dot2 P P + 2 * (A * B * dot2 P Q) + B * B * dot2 Q Q) := by grind
  have e4 : D * lo * (D * lo) = D * D * (lo * lo) := by grind
  omega
theorem lin_comb {hi lo D S D' S' u γ : Int} (hhi : 0 < hi) (hlo : 0 ≤ lo) (hD : 0 < D) (hD' : 0 < D') (hS' : 0 < S') (ho : 0 ≤ hi * (D * u) + 998 * S * γ) (hoS : 998 * S ≤ D * hi)
    (hi' : 0 ≤ lo * (D' * u) + 1001 * S' * γ) (hiS : D' * lo ≤ 1001 * S') : 0 ≤ u + γ := by
  by_cases hg : 0 ≤ γ
  · refine pos_of_mul (t := D * hi) (Int.mul_pos hD hhi) ?_
    have := Int.mul_nonneg (show 0 ≤ D * hi - 998 * S by omega) hg
    have e : D * hi * (u + γ) = hi * (D * u) + 998 * S * γ + (D * hi - 998 * S) * γ := by grind
    omega
  · rcases Int.lt_or_eq_of_le (Int.mul_nonneg (Int.le_of_lt hD') hlo) with hp | hz
    · refine pos_of_mul (t := D' * lo) hp ?_
      have := Int.mul_nonneg (show 0 ≤ 1001 * S' - D' * lo by omega) (show 0 ≤ -γ by omega)
      have e : D' * lo * (u + γ) = lo * (D' * u) + 1001 * S' * γ + (1001 * S' - D' * lo) * -γ := by grind
      omega
    · exfalso
      have e : lo * (D' * u) = D' * lo * u := by grind
      rw [e, ← hz, Int.zero_mul] at hi'
      have := Int.mul_pos (show 0 < 1001 * S' by omega) (show 0 < -γ by omega)
      have e2 : 1001 * S' * -γ = -(1001 * S' * γ) := by grind
      omega
theorem lin_sum {P Q v : Pt} {A B D α β : Int} (e1 : D * v.1 = A * P.1 + B * Q.1) (e2 : D * v.2 = A * P.2 + B * Q.2) : D * (α * v.1 + β * v.2) = A * (α * P.1 + β * P.2) + B * (α * Q.1 + β * Q.2) := by
  have e : D * (α * v.1 + β * v.2) = α * (D * v.1) + β * (D * v.2) := by grind
  rw [e, e1, e2]; grind
def lenT : Bool := (List.range 64).all fun k => decide (996004 ≤ dot2 (rayP k) (rayP k)) && decide (dot2 (rayP k) (rayP k) ≤ 1002001) && decide (1992008 ≤ dot2 (rayP k) (rayP k) + dot2 (rayP k) (rayP (k + 1))) && decide (1992008 ≤ dot2 (rayP (k + 1)) (rayP (k + 1)) + dot2 (rayP k) (rayP (k + 1)))
theorem lenT_ok : lenT = true := by decide +kernel
theorem len_tab (k : Nat) : 996004 ≤ dot2 (rayP k) (rayP k) ∧ dot2 (rayP k) (rayP k) ≤ 1002001 ∧ 1992008 ≤ dot2 (rayP k) (rayP k) + dot2 (rayP k) (rayP (k + 1)) ∧ 1992008 ≤ dot2 (rayP (k + 1)) (rayP (k + 1)) + dot2 (rayP k) (rayP (k + 1)) := by
  have h := lenT_ok
  simp only [lenT, List.all_eq_true, List.mem_range, Bool.and_eq_true, decide_eq_true_eq] at h
  have h := h (k % 64) (Nat.mod_lt _ (by decide))
  rw [ray_add, ← ray_mod] at h
  exact ⟨h.1.1.1, h.1.1.2, h.1.2, h.2⟩
/-- The last ray that is not behind it. -/
theorem last_ray {v : Pt} (a : Nat) : ∀ n, 0 ≤ crs (rayP a) v → ∃ d, d ≤ n ∧ 0 ≤ crs (rayP (a + d)) v ∧ (d = n ∨ crs (rayP (a + d + 1)) v < 0)
  | 0, h => ⟨0, Nat.le_refl _, h, .inl rfl⟩
  | n + 1, h => by
    obtain ⟨d, h1, h2, h3⟩ := last_ray a n h
    rcases h3 with rfl | h3
    · by_cases hc : 0 ≤ crs (rayP (a + d + 1)) v
      · exact ⟨d + 1, Nat.le_refl _, hc, .inl rfl⟩
      · exact ⟨d, by omega, h2, .inr (by omega)⟩
    · exact ⟨d, by omega, h2, .inr h3⟩
theorem two_comb (v r s : Pt) : crs r s * v.1 = crs v s * r.1 + crs r v * s.1 ∧ crs r s * v.2 = crs v s * r.2 + crs r v * s.2 := by unfold crs; constructor <;> grind
theorem one_comb {v r : Pt} (h : crs r v = 0) : dot2 r r * v.1 = dot2 r v * r.1 + 0 * r.1 ∧ dot2 r r * v.2 = dot2 r v * r.2 + 0 * r.2 := by unfold crs at h; unfold dot2; constructor <;> grind
theorem nsq_pos {v : Pt} (h : ¬ (v.1 = 0 ∧ v.2 = 0)) : 0 < nsq v := by
  have a := sq_nonneg v.1
  have b := sq_nonneg v.2
  unfold nsq
  refine Int.not_le.1 fun hl => h ⟨?_, ?_⟩
  · exact (Int.mul_eq_zero.1 (show _ * _ = (0 : Int) by omega)).elim id id
  · exact (Int.mul_eq_zero.1 (show _ * _ = (0 : Int) by omega)).elim id id
theorem sum_pos {P Q v : Pt} {A B D : Int} (hA : 0 ≤ A) (hB : 0 ≤ B) (hD : 0 < D) (e1 : D * v.1 = A * P.1 + B * Q.1) (e2 : D * v.2 = A * P.2 + B * Q.2) (hv : ¬ (v.1 = 0 ∧ v.2 = 0)) : 0 < A + B := by
  refine Int.not_le.1 fun hl => hv ?_
  have ha : A = 0 := by omega
  have hb : B = 0 := by omega
  subst ha hb
  simp only [Int.zero_mul, Int.add_zero, Int.mul_eq_zero] at e1 e2
  omega
/-- The sector has each place between its rays that is within its distances. -/
theorem sec_lin {v : Pt} {a n : Nat} {lo hi : Int} (hn : n ≤ 31) (hz : ¬ (v.1 = 0 ∧ v.2 = 0)) (hlo : 0 ≤ lo) (hhi : 0 ≤ hi) (h1 : lo * lo ≤ nsq v) (h2 : nsq v ≤ hi * hi) (hr : rawP a n v = true) : linIn (secA a n lo hi) v := by
  intro α β γ hall
  have hip : 0 < hi := by
    refine Int.not_le.1 fun h => ?_
    have e : hi = 0 := by omega
    rw [e] at h2
    have := nsq_pos hz
    omega
  have inn : ∀ b, b = a ∨ b = a + n → 0 ≤ lo * (α * (rayP b).1 + β * (rayP b).2) + 1001 * γ := fun b hb => rnd_lin (by decide) fun y hy => hall y (by
    simp only [secA, secL, List.mem_append]
    rcases hb with rfl | rfl
    · exact .inl (.inl hy)
    · exact .inl (.inr hy))
  have out : ∀ i, i ≤ n → 0 ≤ hi * (α * (rayP (a + i)).1 + β * (rayP (a + i)).2) + 998 * γ := fun i hi' => rnd_lin (by decide) fun y hy => hall y (by
    simp only [secA, secL, List.mem_append, List.mem_flatMap, List.mem_range]
    exact .inr ⟨i, by omega, hy⟩)
  show 0 ≤ α * v.1 + β * v.2 + γ
  -- the outer chord
  have fo : ∀ {P Q : Pt} {A B D : Int}, 0 ≤ A → 0 ≤ B → 0 < D → D * v.1 = A * P.1 + B * Q.1 → D * v.2 = A * P.2 + B * Q.2 → 0 ≤ hi * (α * P.1 + β * P.2) + 998 * γ → (B = 0 ∨ 0 ≤ hi * (α * Q.1 + β * Q.2) + 998 * γ) →
      0 ≤ hi * (D * (α * v.1 + β * v.2)) + 998 * (A + B) * γ := by
    intro P Q A B D hA hB hD e1 e2 hP hQ
    rw [lin_sum e1 e2]
    have x := Int.mul_nonneg hA hP
    have y : 0 ≤ B * (hi * (α * Q.1 + β * Q.2) + 998 * γ) := by
      rcases hQ with rfl | hQ
      · rw [Int.zero_mul]; exact Int.le_refl _
      · exact Int.mul_nonneg hB hQ
    have e : hi * (A * (α * P.1 + β * P.2) + B * (α * Q.1 + β * Q.2)) + 998 * (A + B) * γ = A * (hi * (α * P.1 + β * P.2) + 998 * γ) + B * (hi * (α * Q.1 + β * Q.2) + 998 * γ) := by grind
    omega
  have fi : ∀ {P Q : Pt} {A B D : Int}, 0 ≤ A → 0 ≤ B → D * v.1 = A * P.1 + B * Q.1 → D * v.2 = A * P.2 + B * Q.2 → 0 ≤ lo * (α * P.1 + β * P.2) + 1001 * γ → (B = 0 ∨ 0 ≤ lo * (α * Q.1 + β * Q.2) + 1001 * γ) →
      0 ≤ lo * (D * (α * v.1 + β * v.2)) + 1001 * (A + B) * γ := by
    intro P Q A B D hA hB e1 e2 hP hQ
    rw [lin_sum e1 e2]
    have x := Int.mul_nonneg hA hP
    have y : 0 ≤ B * (lo * (α * Q.1 + β * Q.2) + 1001 * γ) := by
      rcases hQ with rfl | hQ
      · rw [Int.zero_mul]; exact Int.le_refl _
      · exact Int.mul_nonneg hB hQ
    have e : lo * (A * (α * P.1 + β * P.2) + B * (α * Q.1 + β * Q.2)) + 1001 * (A + B) * γ = A * (lo * (α * P.1 + β * P.2) + 1001 * γ) + B * (lo * (α * Q.1 + β * Q.2) + 1001 * γ) := by grind
    omega
  by_cases h0 : n = 0
  · subst h0
    simp only [rawP, if_true, Bool.and_eq_true, decide_eq_true_eq] at hr
    obtain ⟨e1, e2⟩ := one_comb hr.1
    have hN := ray_norm a
    obtain ⟨l1, l2, _⟩ := len_tab a
    have hs := Int.le_of_lt hr.2
    exact lin_comb hip hlo hN hN (S := dot2 (rayP a) v + 0) (S' := dot2 (rayP a) v + 0) (by omega) (fo hs (Int.le_refl 0) hN e1 e2 (out 0 (Nat.le_refl _)) (.inl rfl))
      (outer_le hs (Int.le_refl 0) (Int.le_of_lt hN) hhi e1 e2 h2 l1 l1 (by omega) (by omega)) (fi hs (Int.le_refl 0) e1 e2 (inn a (.inl rfl)) (.inl rfl)) (inner_le hs (Int.le_refl 0) e1 e2 h1 l2 l2)
  · simp only [rawP, if_neg h0, Bool.and_eq_true, decide_eq_true_eq] at hr
    obtain ⟨r1, r2⟩ := hr
    have hD' : 0 < crs (rayP a) (rayP (a + n)) := sgn_pos (by omega) (by omega)
    obtain ⟨e1, e2⟩ := two_comb v (rayP a) (rayP (a + n))
    have hS' := sum_pos r2 r1 hD' e1 e2 hz
    have I1 := fi r2 r1 e1 e2 (inn a (.inl rfl)) (.inr (inn (a + n) (.inr rfl)))
    have I2 := inner_le r2 r1 e1 e2 h1 (len_tab a).2.1 (len_tab (a + n)).2.1
    obtain ⟨d, hd, hge, hlast⟩ := last_ray (v := v) a n r1
    rcases hlast with rfl | hlt
    · -- on the last ray
      have hc : crs v (rayP (a + d)) = 0 := by rw [crs_anti] at r2 ⊢; omega
      rw [hc] at e1 e2
      have e1' : crs (rayP a) (rayP (a + d)) * v.1 = crs (rayP a) v * (rayP (a + d)).1 + 0 * (rayP (a + d)).1 := by omega
      have e2' : crs (rayP a) (rayP (a + d)) * v.2 = crs (rayP a) v * (rayP (a + d)).2 + 0 * (rayP (a + d)).2 := by omega
      obtain ⟨l1, l2, _⟩ := len_tab (a + d)
      exact lin_comb hip hlo hD' hD' (S := crs (rayP a) v + 0) hS' (fo r1 (Int.le_refl 0) hD' e1' e2' (out d (Nat.le_refl _)) (.inl rfl))
        (outer_le r1 (Int.le_refl 0) (Int.le_of_lt hD') hhi e1' e2' h2 l1 l1 (by omega) (by omega)) I1 I2
    · by_cases hdn : d = n
      · subst hdn
        have hc : crs v (rayP (a + d)) = 0 := by rw [crs_anti] at r2 ⊢; omega
        rw [hc] at e1 e2
        have e1' : crs (rayP a) (rayP (a + d)) * v.1 = crs (rayP a) v * (rayP (a + d)).1 + 0 * (rayP (a + d)).1 := by omega
        have e2' : crs (rayP a) (rayP (a + d)) * v.2 = crs (rayP a) v * (rayP (a + d)).2 + 0 * (rayP (a + d)).2 := by omega
        obtain ⟨l1, l2, _⟩ := len_tab (a + d)
        exact lin_comb hip hlo hD' hD' (S := crs (rayP a) v + 0) hS' (fo r1 (Int.le_refl 0) hD' e1' e2' (out d (Nat.le_refl _)) (.inl rfl))
          (outer_le r1 (Int.le_refl 0) (Int.le_of_lt hD') hhi e1' e2' h2 l1 l1 (by omega) (by omega)) I1 I2
      have hD : 0 < crs (rayP (a + d)) (rayP (a + d + 1)) := sgn_pos (a := a + d) (d := 1) (by omega) (by omega)
      obtain ⟨f1, f2⟩ := two_comb v (rayP (a + d)) (rayP (a + d + 1))
      have hA : 0 ≤ crs v (rayP (a + d + 1)) := by rw [crs_anti]; omega
      obtain ⟨l1, l2, l3, l4⟩ := len_tab (a + d)
      have l5 := (len_tab (a + d + 1)).1
      exact lin_comb hip hlo hD hD' (S := crs v (rayP (a + d + 1)) + crs (rayP (a + d)) v) hS' (fo hA hge hD f1 f2 (out d hd) (.inr (out (d + 1) (by omega))))
        (outer_le hA hge (Int.le_of_lt hD) hhi f1 f2 h2 l1 l5 l3 l4) I1 I2
/-- A sector of one of its rays alone: all its rounded places are the sector's. -/
theorem sec_ends {a n b : Nat} {lo hi : Int} (hb : b = a ∨ b % 64 = (a + n) % 64) : ∀ y ∈ secA b 0 lo hi, y ∈ secA a n lo hi := by
  intro y hy
  obtain ⟨i, hi', er⟩ : ∃ i, i ≤ n ∧ rayP b = rayP (a + i) := by
    rcases hb with rfl | hb
    · exact ⟨0, Nat.zero_le _, rfl⟩
    · exact ⟨n, Nat.le_refl _, ray_cong hb⟩
  have ein : rndP (rayP b) lo 1001 = rndP (rayP a) lo 1001 ∨ rndP (rayP b) lo 1001 = rndP (rayP (a + n)) lo 1001 := by
    rcases hb with rfl | hb
    · exact .inl rfl
    · exact .inr (by rw [ray_cong hb])
  simp only [secA, secL, List.mem_append, List.mem_flatMap, List.mem_range, Nat.add_zero, Nat.zero_add] at hy ⊢
  rcases hy with (hy | hy) | ⟨j, hj, hy⟩
  · rcases ein with e | e
    · exact .inl (.inl (e ▸ hy))
    · exact .inl (.inr (e ▸ hy))
  · rcases ein with e | e
    · exact .inl (.inl (e ▸ hy))
    · exact .inl (.inr (e ▸ hy))
  · have : j = 0 := by omega
    subst this
    rw [Nat.add_zero, er] at hy
    exact .inr ⟨i, by omega, hy⟩
end Go.Proofs.YtlppfikkgcfaoaaGreat

/- Contracts: the examples at the head of the rays' laws; the vectors that they take. -/
namespace Go.Proofs.YtlppfikkgcfaoaaGreat
open Go Go.V Go.RowKit
theorem ray_ex1 (M : Mem) : FnP Tryz.prog 5 [.int .i64 16] M [pt 0 1000, .int .i64 0] := Ray_fn 16 M
theorem ray_ex2 (M : Mem) : FnP Tryz.prog 5 [.int .i64 64] M [pt 0 0, .int .i64 1] := Ray_fn 64 M
theorem btw_ex1 (M : Mem) : FnP Tryz.prog 7 [.int .i64 8, .int .i64 0, pt 5 5] M [.bool true, .int .i64 0] := Between_fn 8 0 (5, 5) M
theorem btw_ex2 (M : Mem) : FnP Tryz.prog 7 [.int .i64 7, .int .i64 2, pt 5 5] M [.bool true, .int .i64 0] := Between_fn 7 2 (5, 5) M
theorem btw_ex3 (M : Mem) : FnP Tryz.prog 7 [.int .i64 8, .int .i64 0, pt (-5) (-5)] M [.bool false, .int .i64 0] := Between_fn 8 0 (-5, -5) M
theorem btw_ex4 (M : Mem) : FnP Tryz.prog 7 [.int .i64 0, .int .i64 32, pt 1 0] M [.bool false, .int .i64 1] := Between_fn 0 32 (1, 0) M
theorem Of_is {v : Pt} {k : Nat} {b : Bool} (M : Mem) (h : OfS v k) (hv : vecB v = true) (hb : onP v k = b) : V.Fn Tryz.prog 9 [ptv v] M fun rs _ => rs = [.int .i64 k, .bool b, .int .i64 0] :=
  (Of_fn v M).mono fun rs M' _ r => by
    rw [if_pos hv] at r
    obtain ⟨j, hj, rfl⟩ := r
    have := ofS_unique hj h
    subst this
    rw [hb]
theorem of_ex1 (M : Mem) : V.Fn Tryz.prog 9 [pt 5 4] M fun rs _ => rs = [.int .i64 6, .bool false, .int .i64 0] := Of_is (v := (5, 4)) (k := 6) M ⟨by decide, by decide, by decide⟩ (by decide) (by decide)
theorem of_ex2 (M : Mem) : V.Fn Tryz.prog 9 [pt 0 (-3)] M fun rs _ => rs = [.int .i64 48, .bool true, .int .i64 0] := Of_is (v := (0, -3)) (k := 48) M ⟨by decide, by decide, by decide⟩ (by decide) (by decide)
theorem of_ex3 (M : Mem) : V.Fn Tryz.prog 9 [pt 0 0] M fun rs _ => rs = [.int .i64 0, .bool false, .int .i64 1] :=
  (Of_fn (0, 0) M).mono fun rs M' _ r => by
    rw [if_neg (by decide)] at r
    exact r
def two09 : List Pt := [(0, 0), (1000, 0)]
theorem sec_ex : secP 0 0 0 998 = two09 := by
  have h : aroundP (secA 0 0 0 998) = two09 := around_eq (hl_of_has (by decide) (by decide) (by decide))
  unfold secP
  rw [h, if_pos (by decide)]
theorem Sector_is {a n : Nat} {lo hi : Int} {q : List Pt} (M : Mem) (ha : a < 64) (hn : n < 32) (h : 0 ≤ lo ∧ lo ≤ hi ∧ hi ≤ 100000) (hq : secP a n lo hi = q) : V.Fn Tryz.prog 11 [.int .i64 a, .int .i64 n, pt lo hi] M fun rs M' => ∃ u, rs = [u, .int .i64 0] ∧ Pts M' u q :=
  (Sector_fn a n lo hi M).mono fun rs M' _ r => by
    rw [if_pos (by unfold secOK; rw [decide_eq_true (show 0 ≤ (a : Int) ∧ (a : Int) < 64 ∧ 0 ≤ (n : Int) ∧ (n : Int) < 32 by omega), decide_eq_true h]; rfl)] at r
    rw [← hq]; exact r
theorem sec_ex1 (M : Mem) : V.Fn Tryz.prog 11 [.int .i64 0, .int .i64 0, pt 0 998] M fun rs M' => ∃ u, rs = [u, .int .i64 0] ∧ Pts M' u two09 := Sector_is (a := 0) (n := 0) M (by decide) (by decide) (by decide) sec_ex
set_option maxRecDepth 100000 in
set_option maxHeartbeats 4000000 in
theorem head09_fn (M : Mem) : V.Fn Tryz.prog 4 [] M fun rs _ => rs = [.bool true] := by
  refine Fn.of_vc cxOK Tryz.func4 rfl rfl rfl ?_
  repeat (first | refine VIf.tt ?_ | refine VIf.ff ?_)
  refine VFn.p (ray_ex1 M) ?_
  repeat (first | refine VIf.tt ?_ | refine VIf.ff ?_)
  refine VFn.p (btw_ex1 M) ?_
  repeat (first | refine VIf.tt ?_ | refine VIf.ff ?_)
  refine VFn.p (btw_ex2 M) ?_
  repeat (first | refine VIf.tt ?_ | refine VIf.ff ?_)
  refine VFn.p (btw_ex3 M) ?_
  repeat (first | refine VIf.tt ?_ | refine VIf.ff ?_)
  refine VFn.mk _ (of_ex1 M) ?_
  rintro rs M1 hM1 rfl
  repeat (first | refine VIf.tt ?_ | refine VIf.ff ?_)
  refine VFn.mk _ (of_ex2 M1) ?_
  rintro rs M2 hM2 rfl
  repeat (first | refine VIf.tt ?_ | refine VIf.ff ?_)
  refine VFn.mk _ (sec_ex1 M2) ?_
  rintro rs M3 hM3 ⟨u, rfl, hu⟩
  repeat (first | refine VIf.tt ?_ | refine VIf.ff ?_)
  refine VFn.p (ray_ex2 M3) ?_
  repeat (first | refine VIf.tt ?_ | refine VIf.ff ?_)
  refine VFn.p (btw_ex4 M3) ?_
  repeat (first | refine VIf.tt ?_ | refine VIf.ff ?_)
  refine VFn.mk _ (of_ex3 M3) ?_
  rintro rs M4 hM4 rfl
  repeat (first | refine VIf.tt ?_ | refine VIf.ff ?_)
  refine VFz.mk fun y1 _ M5 hM5 hy1 => ?_
  have hy1 : Pts M5 y1 two09 := hy1
  repeat (first | refine VIf.tt ?_ | refine VIf.ff ?_)
  refine VFn.p (Same_fn u y1 two09 two09 M5 (hu.le (hM4.trans hM5)) hy1) ?_
  repeat (first | refine VIf.tt ?_ | refine VIf.ff ?_)
  refine VFact.mk ?_ trivial
  exact congrArg (fun b => [Value.bool b]) (by decide)
def plc09 (x y : Int) : Pt := if x = 30000 ∧ y = 30000 then (1, 0) else (x - 30000, y - 30000)
theorem plc09_bd {x y : Int} (hx : 0 ≤ x ∧ x < 65536) (hy : 0 ≤ y ∧ y < 65536) : vecB (plc09 x y) = true ∧ ¬ ((plc09 x y).1 = 0 ∧ (plc09 x y).2 = 0) ∧ -30000 ≤ (plc09 x y).1 ∧ (plc09 x y).1 ≤ 35535 ∧ -30000 ≤ (plc09 x y).2 ∧ (plc09 x y).2 ≤ 35535 := by
  have h : ¬ ((plc09 x y).1 = 0 ∧ (plc09 x y).2 = 0) ∧ -30000 ≤ (plc09 x y).1 ∧ (plc09 x y).1 ≤ 35535 ∧ -30000 ≤ (plc09 x y).2 ∧ (plc09 x y).2 ≤ 35535 := by
    unfold plc09
    split
    · decide
    · simp only; omega
  refine ⟨?_, h⟩
  unfold vecB
  rw [decide_eq_true (by omega), Bool.true_and, Bool.not_eq_true', Bool.and_eq_false_iff, beq_eq_false_iff_ne, beq_eq_false_iff_ne]
  omega
theorem Turned_fn (v : Pt) (M : Mem) (hV : isV v) : FnP Tryz.prog 34 [ptv v] M [ptv (rotL v)] := by
  unfold isV at hV
  refine Fn.of_vc cxOK Tryz.func34 rfl rfl rfl ?_
  repeat (first | refine VIf.tt ?_ | refine VIf.ff ?_)
  refine VArith.ok (by first | omega | (simp only; omega)) (by first | omega | (simp only; omega)) ?_
  repeat (first | refine VIf.tt ?_ | refine VIf.ff ?_)
  exact VFact.mk ⟨rfl, rfl⟩ trivial
end Go.Proofs.YtlppfikkgcfaoaaGreat

/- Contracts of package ray with the value given; each vector lies behind a ray. -/
namespace Go.Proofs.YtlppfikkgcfaoaaGreat
open Go Go.V Go.RowKit
theorem ofS_first {p : Pt} (h1 : 0 < p.1) (h2 : 0 ≤ p.2) : ∃ k, OfS p k := by
  obtain ⟨d, hd, hge, hl⟩ := last_ray (v := p) 0 16 (show 0 ≤ (1000 : Int) * p.2 - 0 * p.1 by omega)
  rw [Nat.zero_add] at hge hl
  have h16 : crs (rayP 16) p = -(1000 * p.1) := by show (0 : Int) * p.2 - 1000 * p.1 = _; omega
  rcases hl with rfl | hl
  · rw [h16] at hge; omega
  · have hne : d ≠ 16 := fun e => by rw [e, h16] at hge; omega
    exact ⟨d, by omega, hge, by rw [crs_anti]; omega⟩
theorem ofS_ex {v : Pt} (h : ¬ (v.1 = 0 ∧ v.2 = 0)) : ∃ k, OfS v k := by
  have r1 : ∀ {p : Pt} {k : Nat}, OfS p k → ∃ k, OfS (rotL p) k := fun h => ⟨_, ofS_rot h⟩
  by_cases c0 : 0 < v.1 ∧ 0 ≤ v.2
  · exact ofS_first c0.1 c0.2
  by_cases c1 : v.1 ≤ 0 ∧ 0 < v.2
  · obtain ⟨k, hk⟩ := ofS_first (p := (v.2, -v.1)) c1.2 (by simp only; omega)
    have := r1 hk
    simpa [rotL] using this
  by_cases c2 : v.1 < 0 ∧ v.2 ≤ 0
  · obtain ⟨k, hk⟩ := ofS_first (p := (-v.1, -v.2)) (by simp only; omega) (by simp only; omega)
    obtain ⟨k, hk⟩ := r1 hk
    have := r1 hk
    simpa [rotL] using this
  · obtain ⟨k, hk⟩ := ofS_first (p := (-v.2, v.1)) (by simp only; omega) (by simp only; omega)
    obtain ⟨k, hk⟩ := r1 hk
    obtain ⟨k, hk⟩ := r1 hk
    have := r1 hk
    simpa [rotL] using this
theorem Between_is {a n : Int} {A N k : Nat} {v : Pt} {b : Bool} (M : Mem) (ea : a = (A : Int)) (en : n = (N : Int)) (ha : A < 64) (hn : N ≤ 31) (hv : vecB v = true) (h : OfS v k) (hb : btwP k A N (onP v k) = b) :
    FnP Tryz.prog 7 [.int .i64 a, .int .i64 n, ptv v] M [.bool b, .int .i64 0] := by
  have := Between_fn a n v M
  rw [hv, decide_eq_true (show 0 ≤ a ∧ a < 64 ∧ 0 ≤ n ∧ n < 32 by omega), Bool.and_self, if_pos rfl] at this
  rw [show a.toNat = A by omega, show n.toNat = N by omega, raw_is h ha hn, hb] at this
  exact this
theorem tmodN (a m : Nat) : (a : Int).tmod (m : Int) = ((a % m : Nat) : Int) := by rw [Int.tmod_eq_emod_of_nonneg (by omega)]; omega
theorem btw_turn {k a n : Nat} {b : Bool} (hk : k < 64) (ha : a < 64) : btwP ((k + 16) % 64) ((a + 16) % 64) n b = btwP k a n b := by
  have : offR ((k + 16) % 64) ((a + 16) % 64) = offR k a := by unfold offR; omega
  unfold btwP; rw [this]
theorem btw_join {k a n m : Nat} {b : Bool} (hk : k < 64) (ha : a < 64) (h : n + m ≤ 31) : btwP k a (n + m) b = (btwP k a n b || btwP k ((a + n) % 64) m b) := by
  have : offR k ((a + n) % 64) = (offR k a + 64 - n) % 64 := by unfold offR; omega
  have hlt : offR k a < 64 := by unfold offR; omega
  unfold btwP
  rw [this]
  rw [Bool.eq_iff_iff]
  cases b <;> simp only [Bool.and_true, Bool.and_false, Bool.or_false, Bool.or_eq_true, decide_eq_true_eq] <;> omega
end Go.Proofs.YtlppfikkgcfaoaaGreat

/- Contracts of the reference implementation of rays: a ray; what lies on it, or between two. -/
namespace Go.Proofs.YtlppfikkgcfaoaaGreat
open Go Go.V Go.RowKit
theorem first09_fn (M : Mem) : V.Fn Tryz.prog 33 [] M fun rs M' => ∃ u, rs = [u] ∧ Pts M' u tblR := by
  refine Fn.of_vc cxOK Tryz.func33 rfl rfl rfl ?_
  repeat (first | refine VIf.tt ?_ | refine VIf.ff ?_)
  refine VFz.mk fun x B M1 hM1 hx => ?_
  repeat (first | refine VIf.tt ?_ | refine VIf.ff ?_)
  exact VFact.mk ⟨x, rfl, hx⟩ trivial
theorem Turned_fn' (v : Pt) (M : Mem) (hV : isR v) : FnP Tryz.prog 34 [ptv v] M [ptv (rotL v)] := Turned_fn v M (R_V hV)
set_option maxRecDepth 20000 in
theorem At09_fn (k : Nat) (M : Mem) (hk : k < 1000) : V.Fn Tryz.prog 16 [.int .i64 k] M fun rs _ => rs = [ptv (rayP k)] := by
  refine Fn.of_vc cxOK Tryz.func16 rfl rfl rfl ?_
  repeat (first | refine VIf.tt ?_ | refine VIf.ff ?_)
  refine VFn.mk _ (first09_fn M) ?_
  rintro rs M1 hM1 ⟨u, rfl, hu⟩
  obtain ⟨ad, c, rfl⟩ := hu.shape
  obtain ⟨_, hm, hrd⟩ := hu.cellsOf
  have hl : k % 16 < tblR.length := Nat.mod_lt _ (by decide)
  obtain ⟨ad', rfl, hp⟩ := hrd M1 (Mem.le_refl _) (k % 16) hl
  repeat (first | refine VIf.tt ?_ | refine VIf.ff ?_)
  refine VDiv.mk (by decide) ?_
  repeat (first | refine VIf.tt ?_ | refine VIf.ff ?_)
  refine VIdx.mk ad' (k % 16) rfl (tmodN k 16) hl ?_
  repeat (first | refine VIf.tt ?_ | refine VIf.ff ?_)
  refine VReads.mk [.int .i64 (gp tblR (k % 16)).1, .int .i64 (gp tblR (k % 16)).2] rfl hp ?_
  have hR := tbl_R hl
  have e4 : ((k : Int).tdiv 16).tmod 4 = ((k / 16 % 4 : Nat) : Int) := by
    rw [Int.tdiv_eq_ediv_of_nonneg (by omega), show ((k : Int) / 16) = ((k / 16 : Nat) : Int) by omega]
    exact tmodN _ 4
  repeat (first | refine VIf.tt ?_ | refine VIf.ff ?_)
  refine VCode.loop cxOK Nat (fun i => ⟨[(0, .v (.int .i64 k)), (2, .box 0 0), (3, .box 1 0), (4, .v (.int .i64 i))], [(1, some (.box 23 [.v (.int .i64 (rotN i (gp tblR (k % 16))).1), .v (.int .i64 (rotN i (gp tblR (k % 16))).2)])), (0, some (.box 23 [.v (.int .i64 0), .v (.int .i64 0)]))], 2, M1, 20, ⟨fun _ => none, none, fun _ => none⟩⟩)
    (fun i => i ≤ k / 16 % 4) (fun i => k / 16 % 4 - i) 0 (Nat.zero_le _) (Wk.mk' id (by repeat' constructor) (by repeat' constructor) (injOK_id _) rfl rfl rfl) ?_
  intro i hi m
  repeat (first | refine VIf.tt ?_ | refine VIf.ff ?_)
  refine VDiv.mk (by decide) ?_
  repeat (first | refine VIf.tt ?_ | refine VIf.ff ?_)
  refine VArith.ok (by rw [Int.tdiv_eq_ediv_of_nonneg (by omega)]; omega) (by rw [Int.tdiv_eq_ediv_of_nonneg (by omega)]; omega) ?_
  repeat (first | refine VIf.tt ?_ | refine VIf.ff ?_)
  refine VDiv.mk (by decide) ?_
  repeat (first | refine VIf.tt ?_ | refine VIf.ff ?_)
  refine VIf.mk (fun hlt => ?_) (fun hge => ?_)
  · have hlt := of_decide_eq_true hlt
    rw [e4] at hlt
    repeat (first | refine VIf.tt ?_ | refine VIf.ff ?_)
    refine VFn.p (Turned_fn' _ M1 (rotN_R hR i)) ?_
    repeat (first | refine VIf.tt ?_ | refine VIf.ff ?_)
    refine VArith.ok (by first | omega | (simp only; omega)) (by first | omega | (simp only; omega)) ?_
    exact ⟨i + 1, by omega, by omega, (Wk.mk' id (by repeat' constructor) (by repeat' constructor) (injOK_id _) rfl rfl rfl)⟩
  · have hge := of_decide_eq_false hge
    rw [e4] at hge
    have e : i = k / 16 % 4 := by omega
    subst e
    repeat (first | refine VIf.tt ?_ | refine VIf.ff ?_)
    exact VFact.mk rfl trivial
theorem Cross09_fn (a b : Pt) (M : Mem) (ha : isV a) (hb : isV b) : FnP Tryz.prog 37 [ptv a, ptv b] M [.int .i64 (crs a b)] := by
  obtain ⟨h1, h2, h3, h4⟩ := ha
  obtain ⟨k1, k2, k3, k4⟩ := hb
  have e1 := mul_bd (a := a.1) (b := b.2) 1000000 1000000 (by omega) (by omega) (by omega) (by omega) (by omega) (by omega)
  have e2 := mul_bd (a := a.2) (b := b.1) 1000000 1000000 (by omega) (by omega) (by omega) (by omega) (by omega) (by omega)
  refine Fn.of_vc cxOK Tryz.func37 rfl rfl rfl ?_
  repeat (first | refine VIf.tt ?_ | refine VIf.ff ?_)
  refine VArith.ok (by first | omega | (simp only; omega)) (by first | omega | (simp only; omega)) ?_
  repeat (first | refine VIf.tt ?_ | refine VIf.ff ?_)
  refine VArith.ok (by first | omega | (simp only; omega)) (by first | omega | (simp only; omega)) ?_
  repeat (first | refine VIf.tt ?_ | refine VIf.ff ?_)
  refine VArith.ok (by first | omega | (simp only; omega)) (by first | omega | (simp only; omega)) ?_
  repeat (first | refine VIf.tt ?_ | refine VIf.ff ?_)
  exact VFact.mk ⟨rfl, rfl⟩ trivial
def onB (k : Nat) (v : Pt) : Bool := decide (crs (rayP k) v = 0) && decide (0 < dot2 (rayP k) v)
set_option maxRecDepth 20000 in
theorem On09_fn (k : Nat) (v : Pt) (M : Mem) (hk : k < 1000) (hV : isV v) : V.Fn Tryz.prog 24 [.int .i64 k, ptv v] M fun rs _ => rs = [.bool (onB k v)] := by
  have hR := ray_R k
  have hRV := R_V hR
  refine Fn.of_vc cxOK Tryz.func24 rfl rfl rfl ?_
  repeat (first | refine VIf.tt ?_ | refine VIf.ff ?_)
  refine VFn.mk _ (At09_fn k M hk) ?_
  rintro rs M1 hM1 rfl
  repeat (first | refine VIf.tt ?_ | refine VIf.ff ?_)
  refine VFn.p (Cross09_fn (rayP k) v M1 hRV hV) ?_
  unfold isR at hR
  unfold isV at hV
  repeat (first | refine VIf.tt ?_ | refine VIf.ff ?_)
  refine VIf.mk (fun h => ?_) (fun h => ?_)
  · have e1 := mul_bd (a := (rayP k).1) (b := v.1) 1000000 1000000 (by omega) (by omega) (by omega) (by omega) (by omega) (by omega)
    have e2 := mul_bd (a := (rayP k).2) (b := v.2) 1000000 1000000 (by omega) (by omega) (by omega) (by omega) (by omega) (by omega)
    repeat (first | refine VIf.tt ?_ | refine VIf.ff ?_)
    refine VArith.ok (by first | omega | (simp only; omega)) (by first | omega | (simp only; omega)) ?_
    repeat (first | refine VIf.tt ?_ | refine VIf.ff ?_)
    refine VArith.ok (by first | omega | (simp only; omega)) (by first | omega | (simp only; omega)) ?_
    repeat (first | refine VIf.tt ?_ | refine VIf.ff ?_)
    refine VArith.ok (by first | omega | (simp only; omega)) (by first | omega | (simp only; omega)) ?_
    repeat (first | refine VIf.tt ?_ | refine VIf.ff ?_)
    refine VFact.mk ?_ trivial
    rw [beq_iff_eq] at h
    unfold onB dot2
    rw [decide_eq_true h, Bool.true_and]
  · repeat (first | refine VIf.tt ?_ | refine VIf.ff ?_)
    refine VFact.mk ?_ trivial
    rw [beq_eq_false_iff_ne] at h
    unfold onB
    rw [decide_eq_false h, Bool.false_and]
def liesB (a n : Nat) (v : Pt) : Bool := if n = 0 ∨ onB a v = true then onB a v else decide (0 ≤ crs (rayP a) v) && decide (0 ≤ crs v (rayP (a + n)))
set_option maxRecDepth 20000 in
theorem Lies09_fn (a n : Nat) (v : Pt) (M : Mem) (ha : a < 64) (hn : n ≤ 31) (hV : isV v) : V.Fn Tryz.prog 22 [.int .i64 a, .int .i64 n, ptv v] M fun rs _ => rs = [.bool (liesB a n v)] := by
  refine Fn.of_vc cxOK Tryz.func22 rfl rfl rfl ?_
  have two : ∀ {M0 : Mem} {rs : List Value}, (n = 0 ∨ onB a v = true) → rs = [.bool (onB a v)] → rs = [.bool (liesB a n v)] := by
    rintro M0 rs h rfl
    unfold liesB; rw [if_pos h]
  repeat (first | refine VIf.tt ?_ | refine VIf.ff ?_)
  refine VIf.mk (fun h0 => ?_) (fun h0 => ?_)
  · have h0 : n = 0 := by have := beq_iff_eq.1 h0; omega
    repeat (first | refine VIf.tt ?_ | refine VIf.ff ?_)
    refine VFn.mk _ (On09_fn a v M (by omega) hV) ?_
    rintro rs M1 hM1 rfl
    repeat (first | refine VIf.tt ?_ | refine VIf.ff ?_)
    exact VFact.mk (two (M0 := M) (.inl h0) rfl) trivial
  have h0 : n ≠ 0 := by have := beq_eq_false_iff_ne.1 h0; omega
  repeat (first | refine VIf.tt ?_ | refine VIf.ff ?_)
  refine VFn.mk _ (On09_fn a v M (by omega) hV) ?_
  rintro rs M1 hM1 rfl
  repeat (first | refine VIf.tt ?_ | refine VIf.ff ?_)
  refine VIf.mk (fun h => ?_) (fun h => ?_)
  · repeat (first | refine VIf.tt ?_ | refine VIf.ff ?_)
    refine VFn.mk _ (On09_fn a v M1 (by omega) hV) ?_
    rintro rs M2 hM2 rfl
    repeat (first | refine VIf.tt ?_ | refine VIf.ff ?_)
    exact VFact.mk (two (M0 := M) (.inr h) rfl) trivial
  have er : liesB a n v = (decide (0 ≤ crs (rayP a) v) && decide (0 ≤ crs v (rayP (a + n)))) := by unfold liesB; rw [if_neg (by simp [h0, h])]
  rw [er]
  repeat (first | refine VIf.tt ?_ | refine VIf.ff ?_)
  refine VDraw.go (by kernel_rfl) ?_
  repeat (first | refine VIf.tt ?_ | refine VIf.ff ?_)
  refine VFn.mk _ (At09_fn a M1 (by omega)) ?_
  rintro rs M2 hM2 rfl
  repeat (first | refine VIf.tt ?_ | refine VIf.ff ?_)
  refine VFn.p (Cross09_fn (rayP a) v M2 (R_V (ray_R a)) hV) ?_
  repeat (first | refine VIf.tt ?_ | refine VIf.ff ?_)
  refine VIf.mk (fun h1 => ?_) (fun h1 => ?_)
  · repeat (first | refine VIf.tt ?_ | refine VIf.ff ?_)
    refine VArith.ok (by first | omega | (simp only; omega)) (by first | omega | (simp only; omega)) ?_
    have F := At09_fn (a + n) M2 (by omega)
    rw [Int.natCast_add] at F
    repeat (first | refine VIf.tt ?_ | refine VIf.ff ?_)
    refine VFn.mk _ F ?_
    rintro rs M3 hM3 rfl
    repeat (first | refine VIf.tt ?_ | refine VIf.ff ?_)
    refine VFn.p (Cross09_fn v (rayP (a + n)) M3 hV (R_V (ray_R (a + n)))) ?_
    repeat (first | refine VIf.tt ?_ | refine VIf.ff ?_)
    refine VFact.mk ?_ trivial
    rw [decide_eq_true (of_decide_eq_true h1), Bool.true_and]
  · repeat (first | refine VIf.tt ?_ | refine VIf.ff ?_)
    refine VFact.mk ?_ trivial
    rw [decide_eq_false (of_decide_eq_false h1), Bool.false_and]
theorem lies_raw {a n : Nat} {v : Pt} (hn : n ≤ 31) (h : liesB a n v = true) : rawP a n v = true := by
  unfold liesB at h
  unfold rawP
  by_cases h0 : n = 0
  · rw [if_pos (.inl h0)] at h
    rw [if_pos h0]
    exact h
  rw [if_neg h0]
  by_cases ho : onB a v = true
  · unfold onB at ho
    rw [Bool.and_eq_true, decide_eq_true_eq, decide_eq_true_eq] at ho
    obtain ⟨h1, h2⟩ := ho
    obtain ⟨e1, e2⟩ := one_comb h1
    have hD : 0 < crs (rayP a) (rayP (a + n)) := sgn_pos (by omega) (by omega)
    have hN := ray_norm a
    have e : dot2 (rayP a) (rayP a) * crs v (rayP (a + n)) = dot2 (rayP a) v * crs (rayP a) (rayP (a + n)) := by
      have : dot2 (rayP a) (rayP a) * crs v (rayP (a + n)) = (dot2 (rayP a) (rayP a) * v.1) * (rayP (a + n)).2 - (dot2 (rayP a) (rayP a) * v.2) * (rayP (a + n)).1 := by unfold crs; grind
      rw [this, e1, e2]; unfold crs; grind
    have hp := Int.mul_nonneg (Int.le_of_lt h2) (Int.le_of_lt hD)
    rw [decide_eq_true (by omega), decide_eq_true (pos_of_mul hN (by omega))]; rfl
  · rw [if_neg (by simp [h0, ho])] at h
    exact h
end Go.Proofs.YtlppfikkgcfaoaaGreat

/- Contracts of the reference implementation of rays: what is right; a ray; what lies between two; the ray behind which a vector lies. -/
namespace Go.Proofs.YtlppfikkgcfaoaaGreat
open Go Go.V Go.RowKit
theorem near_fn (n : Int) (M : Mem) : FnP Tryz.prog 36 [.int .i64 n] M [.bool (decide (-1000000 ≤ n ∧ n ≤ 1000000))] := by
  refine Fn.of_vc cxOK Tryz.func36 rfl rfl rfl ?_
  repeat (first | refine VIf.tt ?_ | refine VIf.ff ?_)
  refine VIf.mk (fun h => ?_) (fun h => ?_)
  · repeat (first | refine VIf.tt ?_ | refine VIf.ff ?_)
    refine VFact.mk ⟨?_, rfl⟩ trivial
    have h := of_decide_eq_true h
    exact congrArg (fun b => [Value.bool b]) (decide_eq_decide.2 ⟨fun h' => ⟨h, h'⟩, fun h' => h'.2⟩)
  · repeat (first | refine VIf.tt ?_ | refine VIf.ff ?_)
    refine VFact.mk ⟨?_, rfl⟩ trivial
    have h := of_decide_eq_false h
    rw [decide_eq_false (by omega)]
theorem Vector_fn (v : Pt) (M : Mem) : FnP Tryz.prog 21 [ptv v] M [.bool (vecB v)] := by
  refine Fn.of_vc cxOK Tryz.func21 rfl rfl rfl ?_
  repeat (first | refine VIf.tt ?_ | refine VIf.ff ?_)
  refine VFn.p (near_fn v.1 M) ?_
  have e : ∀ b, (decide (-1000000 ≤ v.1 ∧ v.1 ≤ 1000000 ∧ -1000000 ≤ v.2 ∧ v.2 ≤ 1000000)) = b → vecB v = (b && !(v.1 == 0 && v.2 == 0)) := fun b h => by unfold vecB; rw [h]
  repeat (first | refine VIf.tt ?_ | refine VIf.ff ?_)
  refine VIf.mk (fun h => ?_) (fun h => ?_)
  · have h := of_decide_eq_true h
    repeat (first | refine VIf.tt ?_ | refine VIf.ff ?_)
    refine VFn.p (near_fn v.2 M) ?_
    repeat (first | refine VIf.tt ?_ | refine VIf.ff ?_)
    refine VIf.mk (fun h2 => ?_) (fun h2 => ?_)
    · have h2 := of_decide_eq_true h2
      repeat (first | refine VIf.tt ?_ | refine VIf.ff ?_)
      refine VFact.mk ⟨?_, rfl⟩ trivial
      rw [e true (decide_eq_true ⟨h.1, h.2, h2.1, h2.2⟩)]; rfl
    · have h2 := of_decide_eq_false h2
      repeat (first | refine VIf.tt ?_ | refine VIf.ff ?_)
      refine VFact.mk ⟨?_, rfl⟩ trivial
      rw [e false (decide_eq_false fun h3 => h2 ⟨h3.2.2.1, h3.2.2.2⟩)]; rfl
  · have h := of_decide_eq_false h
    repeat (first | refine VIf.tt ?_ | refine VIf.ff ?_)
    refine VFact.mk ⟨?_, rfl⟩ trivial
    rw [e false (decide_eq_false fun h3 => h ⟨h3.1, h3.2.1⟩)]; rfl
theorem right_fn (a n : Int) (M : Mem) : FnP Tryz.prog 20 [.int .i64 a, .int .i64 n] M [.bool (decide (0 ≤ a ∧ a < 64 ∧ 0 ≤ n ∧ n < 32))] := by
  refine Fn.of_vc cxOK Tryz.func20 rfl rfl rfl ?_
  repeat (first | refine VIf.tt ?_ | refine VIf.ff ?_)
  refine VIf.mk (fun h => ?_) (fun h => ?_)
  rotate_left
  · have h := of_decide_eq_false h
    repeat (first | refine VIf.tt ?_ | refine VIf.ff ?_)
    refine VFact.mk ⟨?_, rfl⟩ trivial
    rw [decide_eq_false (by omega)]
  repeat (first | refine VIf.tt ?_ | refine VIf.ff ?_)
  refine VIf.mk (fun h2 => ?_) (fun h2 => ?_)
  rotate_left
  · have h2 := of_decide_eq_false h2
    repeat (first | refine VIf.tt ?_ | refine VIf.ff ?_)
    refine VFact.mk ⟨?_, rfl⟩ trivial
    rw [decide_eq_false (by omega)]
  repeat (first | refine VIf.tt ?_ | refine VIf.ff ?_)
  refine VIf.mk (fun h3 => ?_) (fun h3 => ?_)
  rotate_left
  · have h3 := of_decide_eq_false h3
    repeat (first | refine VIf.tt ?_ | refine VIf.ff ?_)
    refine VFact.mk ⟨?_, rfl⟩ trivial
    rw [decide_eq_false (by omega)]
  have h := of_decide_eq_true h
  have h2 := of_decide_eq_true h2
  have h3 := of_decide_eq_true h3
  repeat (first | refine VIf.tt ?_ | refine VIf.ff ?_)
  refine VFact.mk ⟨?_, rfl⟩ trivial
  exact congrArg (fun b => [Value.bool b]) (decide_eq_decide.2 (by omega))
theorem Dist_fn (lo hi : Int) (M : Mem) : FnP Tryz.prog 30 [pt lo hi] M [.bool (decide (0 ≤ lo ∧ lo ≤ hi ∧ hi ≤ 100000))] := by
  refine Fn.of_vc cxOK Tryz.func30 rfl rfl rfl ?_
  repeat (first | refine VIf.tt ?_ | refine VIf.ff ?_)
  refine VIf.mk (fun h => ?_) (fun h => ?_)
  rotate_left
  · have h := of_decide_eq_false h
    repeat (first | refine VIf.tt ?_ | refine VIf.ff ?_)
    refine VFact.mk ⟨?_, rfl⟩ trivial
    rw [decide_eq_false (by omega)]
  repeat (first | refine VIf.tt ?_ | refine VIf.ff ?_)
  refine VIf.mk (fun h2 => ?_) (fun h2 => ?_)
  rotate_left
  · have h2 := of_decide_eq_false h2
    repeat (first | refine VIf.tt ?_ | refine VIf.ff ?_)
    refine VFact.mk ⟨?_, rfl⟩ trivial
    rw [decide_eq_false (by omega)]
  have h := of_decide_eq_true h
  have h2 := of_decide_eq_true h2
  repeat (first | refine VIf.tt ?_ | refine VIf.ff ?_)
  refine VFact.mk ⟨?_, rfl⟩ trivial
  exact congrArg (fun b => [Value.bool b]) (decide_eq_decide.2 (by omega))
theorem RayR_fn (k : Int) (M : Mem) : V.Fn Tryz.prog 6 [.int .i64 k] M fun rs _ => rs = (if decide (0 ≤ k ∧ k < 64) = true then [ptv (rayP k.toNat), .int .i64 0] else [pt 0 0, .int .i64 1]) := by
  refine Fn.of_vc cxOK Tryz.func6 rfl rfl rfl ?_
  repeat (first | refine VIf.tt ?_ | refine VIf.ff ?_)
  refine VIf.mk (fun h => ?_) (fun h => ?_)
  · have h := of_decide_eq_true h
    repeat (first | refine VIf.tt ?_ | refine VIf.ff ?_)
    refine VFact.mk ?_ trivial
    rw [decide_eq_false (by omega)]; rfl
  repeat (first | refine VIf.tt ?_ | refine VIf.ff ?_)
  refine VIf.mk (fun h2 => ?_) (fun h2 => ?_)
  · have h2 := of_decide_eq_true h2
    repeat (first | refine VIf.tt ?_ | refine VIf.ff ?_)
    refine VFact.mk ?_ trivial
    rw [decide_eq_false (by omega)]; rfl
  have h := of_decide_eq_false h
  have h2 := of_decide_eq_false h2
  have F := At09_fn k.toNat M (by omega)
  rw [show ((k.toNat : Nat) : Int) = k by omega] at F
  repeat (first | refine VIf.tt ?_ | refine VIf.ff ?_)
  refine VFn.mk _ F ?_
  rintro rs M1 hM1 rfl
  repeat (first | refine VIf.tt ?_ | refine VIf.ff ?_)
  refine VFact.mk ?_ trivial
  rw [decide_eq_true (by omega)]; rfl
theorem lies_is {a n : Nat} {v : Pt} (hn : n ≤ 31) : liesB a n v = rawP a n v := by
  by_cases h0 : n = 0
  · unfold liesB rawP; rw [if_pos (.inl h0), if_pos h0]; rfl
  by_cases ho : onB a v = true
  · have : liesB a n v = true := by unfold liesB; rw [if_pos (.inr ho)]; exact ho
    rw [this, lies_raw hn this]
  · unfold liesB rawP; rw [if_neg (by simp [h0, ho]), if_neg h0]
theorem BetweenR_fn (a n : Int) (v : Pt) (M : Mem) : V.Fn Tryz.prog 8 [.int .i64 a, .int .i64 n, ptv v] M fun rs _ => rs = (if (decide (0 ≤ a ∧ a < 64 ∧ 0 ≤ n ∧ n < 32) && vecB v) = true then [.bool (rawP a.toNat n.toNat v), .int .i64 0] else [.bool false, .int .i64 1]) := by
  refine Fn.of_vc cxOK Tryz.func8 rfl rfl rfl ?_
  repeat (first | refine VIf.tt ?_ | refine VIf.ff ?_)
  refine VFn.p (right_fn a n M) ?_
  repeat (first | refine VIf.tt ?_ | refine VIf.ff ?_)
  refine VIf.mk (fun h => ?_) (fun h => ?_)
  · repeat (first | refine VIf.tt ?_ | refine VIf.ff ?_)
    refine VFact.mk ?_ trivial
    rw [(Bool.not_eq_true' _).mp h]; rfl
  have h := (Bool.not_eq_false' _).mp h
  repeat (first | refine VIf.tt ?_ | refine VIf.ff ?_)
  refine VFn.p (Vector_fn v M) ?_
  repeat (first | refine VIf.tt ?_ | refine VIf.ff ?_)
  refine VIf.mk (fun hv => ?_) (fun hv => ?_)
  · repeat (first | refine VIf.tt ?_ | refine VIf.ff ?_)
    refine VFact.mk ?_ trivial
    rw [(Bool.not_eq_true' _).mp hv, Bool.and_false]; rfl
  have hv := (Bool.not_eq_false' _).mp hv
  rw [h, hv]
  have h := of_decide_eq_true h
  have F := Lies09_fn a.toNat n.toNat v M (by omega) (by omega) (vec_V hv)
  rw [show ((a.toNat : Nat) : Int) = a by omega, show ((n.toNat : Nat) : Int) = n by omega, lies_is (by omega)] at F
  repeat (first | refine VIf.tt ?_ | refine VIf.ff ?_)
  refine VFn.mk _ F ?_
  rintro rs M1 hM1 rfl
  repeat (first | refine VIf.tt ?_ | refine VIf.ff ?_)
  exact VFact.mk rfl trivial
theorem in1_is {k i : Nat} {on : Bool} (hk : k < 64) (hi : i < 64) : btwP k i 1 on = (decide (i = k) || (decide ((i + 1) % 64 = k) && on)) := by
  have h1 : offR k i < 1 ↔ i = k := by unfold offR; omega
  have h2 : offR k i = 1 ↔ (i + 1) % 64 = k := by unfold offR; omega
  unfold btwP
  rw [decide_eq_decide.2 h1, decide_eq_decide.2 h2]
theorem in0_is {k j : Nat} {on : Bool} (hk : k < 64) (hj : j < 64) : btwP k j 0 on = (decide (j = k) && on) := by
  have h2 : offR k j = 0 ↔ j = k := by unfold offR; omega
  unfold btwP
  rw [decide_eq_decide.2 h2, decide_eq_false (Nat.not_lt_zero _), Bool.false_or]
theorem onB_is {v : Pt} {k i : Nat} (h : OfS v k) : onB i v = (decide (i % 64 = k) && onP v k) := by
  have := raw_is h (a := i % 64) (n := 0) (Nat.mod_lt _ (by decide)) (by decide)
  rw [in0_is h.hk (Nat.mod_lt _ (by decide))] at this
  rw [← this]
  unfold onB rawP
  rw [if_pos rfl, ← ray_mod]
set_option maxRecDepth 20000 in
theorem OfR_fn (v : Pt) (M : Mem) (h0 : vecB v = false) : V.Fn Tryz.prog 10 [ptv v] M fun rs _ => rs = [.int .i64 0, .bool false, .int .i64 1] := by
  refine Fn.of_vc cxOK Tryz.func10 rfl rfl rfl ?_
  repeat (first | refine VIf.tt ?_ | refine VIf.ff ?_)
  refine VFn.p (Vector_fn v M) ?_
  rw [h0]
  repeat (first | refine VIf.tt ?_ | refine VIf.ff ?_)
  exact VFact.mk rfl trivial
set_option maxRecDepth 20000 in
theorem OfR_is {v : Pt} {k : Nat} (M : Mem) (hv : vecB v = true) (hk : OfS v k) : V.Fn Tryz.prog 10 [ptv v] M fun rs _ => rs = [.int .i64 k, .bool (onP v k), .int .i64 0] := by
  have hV := vec_V hv
  have hk64 := hk.hk
  refine Fn.of_vc cxOK Tryz.func10 rfl rfl rfl ?_
  repeat (first | refine VIf.tt ?_ | refine VIf.ff ?_)
  refine VFn.p (Vector_fn v M) ?_
  repeat (first | refine VIf.tt ?_ | refine VIf.ff ?_)
  refine VIf.mk (fun h => ?_) (fun _ => ?_)
  · rw [hv] at h; cases h
  repeat (first | refine VIf.tt ?_ | refine VIf.ff ?_)
  refine VCode.loop cxOK (Nat × Mem) (fun s => ⟨[(1, .box 0 0), (2, .v (.int .i64 0)), (3, .v (.bool false)), (4, .v (.int .i64 0)), (5, .v (.int .i64 s.1))], [(0, some (.box 23 [.v (.int .i64 v.1), .v (.int .i64 v.2)]))], 1, s.2, 27, ⟨fun _ => none, none, fun _ => none⟩⟩)
    (fun s => s.1 ≤ k ∧ M.le s.2) (fun s => k - s.1) (0, M) ⟨Nat.zero_le _, Mem.le_refl _⟩ (Wk.mk' id (by repeat' constructor) (by repeat' constructor) (injOK_id _) rfl rfl rfl) ?_
  rintro ⟨i, M1⟩ ⟨hi, hM1⟩ m
  simp only at hi hM1
  repeat (first | refine VIf.tt ?_ | refine VIf.ff ?_)
  refine VIf.mk (fun _ => ?_) (fun h => ?_)
  rotate_left
  · have := of_decide_eq_false h; omega
  have L := Lies09_fn i 1 v M1 (by omega) (by decide) hV
  rw [lies_is (by decide), raw_is hk (by omega) (by decide), in1_is hk64 (by omega)] at L
  have O := fun M2 => On09_fn (i + 1) v M2 (by omega) hV
  rw [onB_is hk, Int.natCast_add] at O
  by_cases c : i = k
  · subst c
    rw [decide_eq_true rfl, Bool.true_or] at L
    rw [decide_eq_false (by omega), Bool.false_and] at O
    repeat (first | refine VIf.tt ?_ | refine VIf.ff ?_)
    refine VFn.mk _ L ?_
    rintro rs M2 hM2 rfl
    repeat (first | refine VIf.tt ?_ | refine VIf.ff ?_)
    refine VArith.ok (by first | omega | (simp only; omega)) (by first | omega | (simp only; omega)) ?_
    repeat (first | refine VIf.tt ?_ | refine VIf.ff ?_)
    refine VFn.mk _ (O M2) ?_
    rintro rs M3 hM3 rfl
    have O2 := On09_fn i v M3 (by omega) hV
    rw [onB_is hk, Nat.mod_eq_of_lt hk64, decide_eq_true rfl, Bool.true_and] at O2
    repeat (first | refine VIf.tt ?_ | refine VIf.ff ?_)
    refine VFn.mk _ O2 ?_
    rintro rs M4 hM4 rfl
    repeat (first | refine VIf.tt ?_ | refine VIf.ff ?_)
    exact VFact.mk rfl trivial
  · rw [decide_eq_false c, Bool.false_or] at L
    obtain ⟨b, hb⟩ : ∃ b, (decide ((i + 1) % 64 = k) && onP v k) = b := ⟨_, rfl⟩
    rw [hb] at L O
    repeat (first | refine VIf.tt ?_ | refine VIf.ff ?_)
    refine VFn.mk _ L ?_
    rintro rs M2 hM2 rfl
    repeat (first | refine VIf.tt ?_ | refine VIf.ff ?_)
    refine VIf.mk (fun e => ?_) (fun e => ?_)
    · subst e
      repeat (first | refine VIf.tt ?_ | refine VIf.ff ?_)
      refine VArith.ok (by first | omega | (simp only; omega)) (by first | omega | (simp only; omega)) ?_
      repeat (first | refine VIf.tt ?_ | refine VIf.ff ?_)
      refine VFn.mk _ (O M2) ?_
      rintro rs M3 hM3 rfl
      repeat (first | refine VIf.tt ?_ | refine VIf.ff ?_)
      refine VArith.ok (by first | omega | (simp only; omega)) (by first | omega | (simp only; omega)) ?_
      exact ⟨(i + 1, M3), ⟨by show i + 1 ≤ k; omega, hM1.trans (hM2.trans hM3)⟩, by simp only; omega, (Wk.mk' id (by repeat' constructor) (by repeat' constructor) (injOK_id _) rfl rfl rfl)⟩
    · repeat (first | refine VIf.tt ?_ | refine VIf.ff ?_)
      refine VArith.ok (by first | omega | (simp only; omega)) (by first | omega | (simp only; omega)) ?_
      exact ⟨(i + 1, M2), ⟨by show i + 1 ≤ k; omega, hM1.trans hM2⟩, by simp only; omega, (Wk.mk' id (by repeat' constructor) (by repeat' constructor) (injOK_id _) rfl rfl rfl)⟩
end Go.Proofs.YtlppfikkgcfaoaaGreat

/- Hulls with any number of corners, plainly: the bounds of what a hull is the hull of. -/
namespace Go.Proofs.YtlppfikkgcfaoaaGreat
open Go
/-- What holds at all corners of a hull holds at each place that it has. -/
theorem corners_hl {S q : List Pt} (h : Hl S q) {x : Pt} (hx : hasB q x = true) (a b c : Int) (hc : ∀ i, i < q.length → 0 ≤ aff a b c (gp q i)) : 0 ≤ aff a b c x := by
  by_cases h64 : q.length ≤ 2
  · have hn := h.pos
    unfold hasB at hx
    split at hx
    · have : gp q 0 = x := by simpa using hx
      rw [← this]; exact hc 0 (by omega)
    rw [if_pos (by omega)] at hx
    simp only [Bool.and_eq_true, decide_eq_true_eq, betwB] at hx
    obtain ⟨hz, b1, b2, b3, b4⟩ := hx
    have hl : lexLt (gp q 0) (gp q 1) := by
      cases h with
      | one a hp _ _ => subst hp; rename_i h1; exact absurd rfl h1
      | many h =>
        rcases lexLe_cases (h.fst _ (h.side 1 (by omega)).1) with g | g
        · exact g
        · exact absurd g (h.inj 0 1 (by omega) (by omega))
    have c0 := hc 0 (by omega)
    have c1 := hc 1 (by omega)
    unfold lexLt at hl
    rcases hl with hl | ⟨he, hl⟩
    · refine pos_of_mul (t := (gp q 1).1 - (gp q 0).1) (by omega) ?_
      rw [seg_x, hz]
      have g1 := Int.mul_nonneg (show 0 ≤ (gp q 1).1 - x.1 by omega) c0
      have g2 := Int.mul_nonneg (show 0 ≤ x.1 - (gp q 0).1 by omega) c1
      omega
    · refine pos_of_mul (t := (gp q 1).2 - (gp q 0).2) (by omega) ?_
      rw [seg_y, hz]
      have g1 := Int.mul_nonneg (show 0 ≤ (gp q 1).2 - x.2 by omega) c0
      have g2 := Int.mul_nonneg (show 0 ≤ x.2 - (gp q 0).2 by omega) c1
      omega
  · cases h with
    | one a hp _ _ => subst hp; exact absurd (show 1 ≤ 2 by decide) h64
    | many h =>
      unfold hasB at hx
      rw [if_neg (by omega), if_neg (by omega)] at hx
      have hs : ∀ i, i < q.length → 0 ≤ crossP (gp q i) (gp q ((i + 1) % q.length)) x := fun i hi => by
        have := all_iff.1 hx i hi
        simpa [sideB] using this
      have s0 := hs 0 (by omega)
      rw [Nat.mod_eq_of_lt (show 0 + 1 < q.length by omega)] at s0
      have sn := hs (q.length - 1) (by omega)
      rw [show q.length - 1 + 1 = q.length by omega, Nat.mod_self] at sn
      obtain ⟨i, i1, i2, p1, p2⟩ := sign_change (fun i => crossP (gp q 0) (gp q i) x) (q.length - 3) s0 (by
        show crossP (gp q 0) (gp q (q.length - 3 + 2)) x ≤ 0
        rw [show q.length - 3 + 2 = q.length - 1 by omega, cross_flip]; omega)
      have hsi := hs i (by omega)
      rw [Nat.mod_eq_of_lt (show i + 1 < q.length by omega)] at hsi
      have ht : 0 < crossP (gp q 0) (gp q i) (gp q (i + 1)) := by
        have e := h.strict (i := i) (by omega) (k := 0) (by omega) (by omega) (by rw [Nat.mod_eq_of_lt (by omega)]; omega)
        rw [Nat.mod_eq_of_lt (show i + 1 < q.length by omega)] at e
        rw [cross_rot] at e; exact e
      refine pos_of_mul ht ?_
      rw [bary]
      have g1 := Int.mul_nonneg hsi (hc 0 (by omega))
      have g2 := Int.mul_nonneg (show 0 ≤ crossP (gp q (i + 1)) (gp q 0) x by rw [cross_flip]; omega) (hc i (by omega))
      have g3 := Int.mul_nonneg p1 (hc (i + 1) (by omega))
      omega
theorem b8_hl {S q : List Pt} (h : Hl S q) {x : Pt} (hx : hasB q x = true) : (b8 q).has x := by
  have k := fun α β γ => corners_hl h hx α β γ
  have c := fun i hi => b8_has h.pos (gp q i) (gp_mem hi)
  unfold B8.has at c
  refine ⟨?_, ?_, ?_, ?_, ?_, ?_, ?_, ?_⟩
  · have := k 1 0 (-(b8 q).a) (fun i hi => by have := c i hi; unfold aff; omega)
    unfold aff at this; omega
  · have := k (-1) 0 (b8 q).b (fun i hi => by have := c i hi; unfold aff; omega)
    unfold aff at this; omega
  · have := k 0 1 (-(b8 q).c) (fun i hi => by have := c i hi; unfold aff; omega)
    unfold aff at this; omega
  · have := k 0 (-1) (b8 q).d (fun i hi => by have := c i hi; unfold aff; omega)
    unfold aff at this; omega
  · have := k 1 1 (-(b8 q).s) (fun i hi => by have := c i hi; unfold aff; omega)
    unfold aff at this; omega
  · have := k (-1) (-1) (b8 q).t (fun i hi => by have := c i hi; unfold aff; omega)
    unfold aff at this; omega
  · have := k 1 (-1) (-(b8 q).u) (fun i hi => by have := c i hi; unfold aff; omega)
    unfold aff at this; omega
  · have := k (-1) 1 (b8 q).v (fun i hi => by have := c i hi; unfold aff; omega)
    unfold aff at this; omega
theorem b8_all {S : List Pt} (hne : S ≠ []) : b8 (aroundP S) = b8 S :=
  b8_ext (around_hl hne).pos (ne_len hne) (fun x hx => b8_has (ne_len hne) x ((around_hl hne).sub x hx)) fun x hx => b8_hl (around_hl hne) ((around_hl hne).has hx)
/-- The sector's polygon is the hull of all, or its eight-sided hull. -/
theorem sec_fewer {a n : Nat} {lo hi : Int} (hn : n < 32) (h : 0 ≤ lo ∧ lo ≤ hi ∧ hi ≤ 100000) : secP a n lo hi = if 64 < (aroundP (secA a n lo hi)).length then eightP (aroundP (secA a n lo hi)) else aroundP (secA a n lo hi) := by
  have hl : (secA a n lo hi).length = 8 + 4 * (n + 1) := secL_len a n lo hi (n + 1)
  have hp : ∀ p ∈ secA a n lo hi, placeB p = true := secL_place (a := a) (n := n) h (n + 1)
  have hne := secA_ne a n lo hi
  obtain ⟨_, _, hb⟩ := corn_all hp hne (by omega)
  unfold secP
  by_cases c : (aroundP (secA a n lo hi)).length ≤ 64
  · rw [if_pos c, if_neg (by omega)]
  · rw [if_neg c, if_pos (by omega)]
    unfold eightP
    rw [hb, b8_all hne]
end Go.Proofs.YtlppfikkgcfaoaaGreat
