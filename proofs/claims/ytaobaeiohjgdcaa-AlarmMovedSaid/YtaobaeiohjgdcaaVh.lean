/- The verification-condition framework, part H: composite literals. -/
import Derived.Test.YtaobaeiohjgdcaaVg
import Derived.Great.BuildSlice
namespace Go.V
open Go Go.RowKit
variable {P : Program}

/-- A part laid into the cells. -/
def lay (cells : List Value) (o : Nat) (vs : List Value) : List Value := cells.take o ++ vs ++ cells.drop (o + vs.length)
theorem foldl_lay (o : Nat) : ∀ (vs : List Value) (s : Nat) (arr : Array Value), o + s + vs.length ≤ arr.size →
    ((vs.zipIdx s).foldl (fun cs (p : Value × Nat) => cs.setIfInBounds (o + p.2) p.1) arr).toList = lay arr.toList (o + s) vs
  | [], s, arr, _ => by simp [lay]
  | v :: vs, s, arr, h => by
    simp only [List.length_cons] at h
    rw [List.zipIdx_cons, List.foldl_cons, foldl_lay o vs (s + 1) _ (by rw [Array.size_setIfInBounds]; omega)]
    unfold lay
    simp only [Array.toList_setIfInBounds]
    have h1 : o + s < arr.toList.length := by simp only [Array.length_toList]; omega
    have e1 : (arr.toList.set (o + s) v).take (o + (s + 1)) = arr.toList.take (o + s) ++ [v] := by
      have : o + (s + 1) = o + s + 1 := by omega
      rw [this, List.take_succ_eq_append_getElem (by simpa using h1)]
      simp [List.take_set_of_le]
    have e2 : (arr.toList.set (o + s) v).drop (o + (s + 1) + vs.length) = arr.toList.drop (o + s + (v :: vs).length) := by
      have : o + (s + 1) + vs.length = o + s + (v :: vs).length := by simp; omega
      rw [this, List.drop_set_of_lt (by simp only [List.length_cons]; omega)]
    rw [e1, e2]
    simp

def fillL (pl : Nat → Option (Nat × Nat)) : List Value → List (Nat × List Value) → Option (List Value)
  | cells, [] => some cells
  | cells, (i, vs) :: r => match pl i with
    | some (o, n) => match Nat.beq vs.length n && Nat.ble (o + vs.length) cells.length with
      | true => fillL pl (lay cells o vs) r
      | false => none
    | none => none
theorem fillL_sound (pl : Nat → Option (Nat × Nat)) : ∀ (parts : List (Nat × Value)) (cells out : List Value), fillL pl cells (parts.map fun p => (p.1, p.2.cells.toList)) = some out →
    Instr.fill pl cells.toArray parts = some out.toArray
  | [], cells, out, h => by simp only [List.map_nil, fillL, Option.some.injEq] at h; simp [Instr.fill, h]
  | (i, v) :: r, cells, out, h => by
    simp only [List.map_cons, fillL] at h
    cases hp : pl i with
    | none => rw [hp] at h; cases h
    | some q =>
      obtain ⟨o, n⟩ := q
      rw [hp] at h
      simp only at h
      split at h
      · rename_i hb
        simp only [Bool.and_eq_true] at hb
        have h1 := Nat.eq_of_beq_eq_true hb.1
        have h2 := Nat.le_of_ble_eq_true hb.2
        simp only [Array.length_toList] at h1 h2
        have ih := fillL_sound pl r _ out h
        unfold Instr.fill
        simp only [hp]
        rw [if_neg (by simp; omega)]
        have hf := foldl_lay o v.cells.toList 0 cells.toArray (by simp; omega)
        have e : (v.cells.zipIdx.foldl (fun cs (c, j) => cs.setIfInBounds (o + j) c) cells.toArray) = (lay cells o v.cells.toList).toArray := by
          apply Array.ext'
          rw [← Array.foldl_toList]
          simpa using hf
        rw [e]
        exact ih
      · cases h

/-- The places of a struct's fields. -/
def places (C : VX) : List (Nat × TypeId) → Option (List (Nat × Nat))
  | [] => some []
  | (o, t) :: r => match look C.te t, places C r with
    | some i, some l => some ((o, i.zero.length) :: l)
    | _, _ => none
theorem places_run {C : VX} (hC : VXOK P C) (W : World) : ∀ (fs : List Field) {l : List (Nat × Nat)}, places C (fs.map fun f => (f.offset, f.type)) = some l →
    (fs.mapM fun f => (do pure (f.offset, ← sizeOf f.type) : Sem (Nat × Nat))).run P W = .ok l W
  | [], l, h => by simp only [List.map_nil, places, Option.some.injEq] at h; subst h; rfl
  | f :: fs, l, h => by
    simp only [List.map_cons, places] at h
    split at h
    · rename_i i l' hi hl
      simp only [Option.some.injEq] at h
      subst h
      have ih := places_run hC W fs hl
      have hs := (hC.te _ _ hi).sizeOf W
      simp only [List.mapM_cons, Sem.run_bind, hs, Result.andThen_ok, Sem.run_pure, ih]
    · cases h

/-- Values of parts: every one plain. -/
def partV (st : St) : List (Nat × Operand) → Option (List (Nat × List Value))
  | [] => some []
  | (i, x) :: r => match st.ev x with
    | some s => match s.cells with
      | some l => match vals l, partV st r with
        | some vs, some q => some ((i, vs) :: q)
        | _, _ => none
      | none => none
    | none => none
theorem partV_sound {n₀ : Nat} {w : World} {M₀ : Mem} {ρ : Env} {st : St} {a : Act} {W : World} (h : Sat n₀ w M₀ ρ st a W) : ∀ {l : List (Nat × Operand)} {r : List (Nat × List Value)}, partV st l = some r →
    (l.map fun p => (p.1, a.eval p.2)).map (fun p => (p.1, p.2.cells.toList)) = r
  | [], r, hr => by simp only [partV, Option.some.injEq] at hr; subst hr; rfl
  | (i, x) :: l, r, hr => by
    simp only [partV] at hr
    split at hr
    · rename_i s hs
      split at hr
      · rename_i cl hcl
        split at hr
        · rename_i vs q hv hq
          simp only [Option.some.injEq] at hr
          subst hr
          have h1 := (h.ev hs).1
          have h2 := cells_den (ρ := ρ) hcl
          rw [← h1] at h2
          have h3 := vals_den (ρ := ρ) hv
          simp only [List.map_cons]
          rw [partV_sound h hq, h2, h3]
        · cases hr
      · cases hr
    · cases hr

def bld (C : VX) (st : St) (t : TypeId) (parts : Array (Nat × Operand)) (k : SV → Prop) : Prop :=
  match look C.te t with
  | some ⟨.st fl, z, _⟩ => match places C fl, partV st parts.toList with
    | some pl, some ps => match fillL (fun i => pl[i]?) z ps with
      | some out => k (.v (.agg out.toArray))
      | none => VStuck 70
    | _, _ => VStuck 71
  | _ => VStuck 72
theorem bld_sound {C : VX} (hC : VXOK P C) {n₀ : Nat} {w : World} {M₀ : Mem} {ρ : Env} {st : St} {a : Act} {W : World} (h : Sat n₀ w M₀ ρ st a W) {t : TypeId} {parts : Array (Nat × Operand)} {k : SV → Prop} (hk : bld C st t parts k) :
    ∃ s, s.sc st.nx ∧ (∀ W, (Instr.build t (parts.map fun (i, x) => (i, a.eval x))).run P W = .ok (s.den ρ) W) ∧ k s := by
  unfold bld at hk
  split at hk
  · rename_i fl z b hl
    have hT := hC.te _ _ hl
    obtain ⟨d, hd, hf⟩ := hT.und
    simp only [TK.fits] at hf
    obtain ⟨fs, rfl, hfl⟩ := hf
    split at hk
    · rename_i pl ps hpl hps
      split at hk
      · rename_i out hout
        refine ⟨.v (.agg out.toArray), trivial, fun W => ?_, hk⟩
        obtain ⟨zv, hz1, hz2⟩ := hT.zeroValue W
        rw [← hfl] at hpl
        have hpr := places_run hC W fs.toList hpl
        have hpv := partV_sound h hps
        have hfs := fillL_sound (fun i => pl[i]?) (parts.toList.map fun p => (p.1, a.eval p.2)) z out (by rw [hpv]; exact hout)
        have hm : (fs.mapM fun f => (do pure (f.offset, ← sizeOf f.type) : Sem (Nat × Nat))).run P W = .ok pl.toArray W := by
          rw [Array.mapM_eq_mapM_toList]
          simp only [Sem.run_map, hpr]
          rfl
        simp only [Instr.build, Sem.run_bind, hz1, Result.andThen_ok, run_underlying hd, hm, hz2]
        have e : (parts.map fun x => (x.1, a.eval x.2)).toList = parts.toList.map fun p => (p.1, a.eval p.2) := by simp
        have e2 : (fun i : Nat => pl.toArray[i]?) = (fun i : Nat => pl[i]?) := by funext i; simp
        simp only [e, e2]
        rw [hfs]
        rfl
      · cases hk
    · cases hk
  · cases hk

/-- The indexes of a literal's parts are 0, 1, .. -/
def dense : Nat → List (Nat × Operand) → Bool
  | _, [] => true
  | n, (i, _) :: r => match Nat.beq i n with | true => dense (n + 1) r | false => false
/-- All parts have n cells; put together. -/
def joinP (n : Nat) : List (Nat × List Value) → Option (List Value)
  | [] => some []
  | (_, vs) :: r => match Nat.beq vs.length n, joinP n r with
    | true, some l => some (vs ++ l)
    | _, _ => none
theorem dense_zip : ∀ {l : List (Nat × Operand)} {n : Nat}, dense n l = true → ∀ (f : Operand → Value), (l.map fun p => (p.1, f p.2)) = ((l.map fun p => f p.2).zipIdx n).map fun x => (x.2, x.1)
  | [], _, _, f => rfl
  | (i, x) :: r, n, h, f => by
    simp only [dense] at h
    cases hb : Nat.beq i n with
    | false => rw [hb] at h; cases h
    | true =>
      rw [hb] at h
      have := Nat.eq_of_beq_eq_true hb
      subst this
      simp only [List.map_cons, List.zipIdx_cons]
      rw [dense_zip h f]
theorem joinP_spec {n : Nat} : ∀ {l : List (Nat × Value)} {r : List Value}, joinP n (l.map fun p => (p.1, p.2.cells.toList)) = some r →
    r = (l.map (·.2)).flatMap (fun v => v.cells.toList) ∧ ∀ v ∈ l.map (·.2), v.cells.size = n
  | [], r, h => by simp only [List.map_nil, joinP, Option.some.injEq] at h; subst h; simp
  | (i, v) :: l, r, h => by
    simp only [List.map_cons, joinP] at h
    split at h
    · rename_i l' hb hl
      simp only [Option.some.injEq] at h
      subst h
      obtain ⟨h1, h2⟩ := joinP_spec hl
      refine ⟨by simp [h1], ?_⟩
      intro u hu
      simp only [List.map_cons, List.mem_cons] at hu
      rcases hu with rfl | hu
      · have := Nat.eq_of_beq_eq_true hb
        simpa using this
      · exact h2 u hu
    · cases h

def allOneV : List Value → Bool
  | [] => true
  | .agg _ :: _ => false
  | .tuple _ :: _ => false
  | _ :: r => allOneV r
theorem allOneV_spec : ∀ {l : List Value}, allOneV l = true → ∀ x ∈ l, x.oneCell' = true
  | [], _, x, hx => by cases hx
  | v :: r, h, x, hx => by
    rcases List.mem_cons.1 hx with rfl | hx
    · cases x <;> first | rfl | cases h
    · refine allOneV_spec (l := r) ?_ x hx
      cases v <;> first | exact h | cases h

/-- A slice literal: a growing slice of one's own. -/
def bldS (C : VX) (st : St) (t : TypeId) (n : Nat) (parts : Array (Nat × Operand)) (k : St → Nat → Prop) : Prop :=
  match look C.te t with
  | some ⟨.sl e, _, _⟩ => match look C.te e, partV st parts.toList with
    | some ei, some ps => match Nat.blt 0 ei.zero.length && Nat.ble (n * ei.zero.length) 16777216 && Nat.beq parts.toList.length n && dense 0 parts.toList, joinP ei.zero.length ps with
      | true, some out => match allOneV out with
        | true => st.addK (.row e ei.zero.length n out) k
        | false => VStuck 73
      | _, _ => VStuck 74
    | _, _ => VStuck 75
  | _ => VStuck 76
theorem bldS_sound {C : VX} (hC : VXOK P C) {n₀ : Nat} {w : World} {M₀ : Mem} {ρ : Env} {st : St} {a : Act} {W : World} (h : Sat n₀ w M₀ ρ st a W) {t : TypeId} {n : Nat} {parts : Array (Nat × Operand)} {k : St → Nat → Prop} (hk : bldS C st t n parts k) :
    ∃ v W' ρ' st' id, (Instr.buildSlice t n (parts.map fun (i, x) => (i, a.eval x))).run P W = .ok v W' ∧ v = (SV.row id).den ρ' ∧ id < st'.nx ∧ Sat n₀ w M₀ ρ' st' a W' ∧ st'.G = st.G ∧ k st' id ∧ Below W.heap.size W W' := by
  unfold bldS at hk
  split at hk
  · rename_i e z b hl
    have hT := hC.te _ _ hl
    obtain ⟨d, hd, hf⟩ := hT.und
    simp only [TK.fits] at hf
    subst hf
    split at hk
    · rename_i ei ps hei hps
      obtain ⟨inf, zv, hi1, hi2, hi3, hi4, _⟩ := (hC.te _ _ hei).inf
      split at hk
      · rename_i out hb hout
        split at hk
        · rename_i h1v
          replace hk := addK_iff hk
          simp only [Bool.and_eq_true] at hb
          obtain ⟨⟨⟨b1, b2⟩, b3⟩, b4⟩ := hb
          have b1 : 0 < ei.zero.length := Nat.le_of_ble_eq_true b1
          have b2 := Nat.le_of_ble_eq_true b2
          have b3 := Nat.eq_of_beq_eq_true b3
          have hpv := partV_sound h hps
          rw [← hpv] at hout
          obtain ⟨j1, j2⟩ := joinP_spec hout
          have e1 : ((parts.toList.map fun p => (p.1, a.eval p.2)).map (·.2)) = parts.toList.map fun p => a.eval p.2 := by simp
          rw [e1] at j1 j2
          have hlen : out.length = n * ei.zero.length := by
            rw [j1, List.length_flatMap]
            have : ∀ (l : List Value), (∀ v ∈ l, v.cells.size = ei.zero.length) → (l.map fun v => v.cells.toList.length).sum = l.length * ei.zero.length := by
              intro l hl
              induction l with
              | nil => simp
              | cons v l ih =>
                simp only [List.map_cons, List.sum_cons, List.length_cons]
                rw [ih (fun u hu => hl u (List.mem_cons_of_mem _ hu)), Array.length_toList, hl v (List.mem_cons_self), Nat.succ_mul]
                omega
            rw [this _ j2, List.length_map, b3]
          have hfill : Instr.fill (fun i => some (i * inf.size, inf.size)) ((Array.range (n * inf.size)).map (zv.cells[· % zv.cells.size]!)) (parts.map fun x => (x.1, a.eval x.2)).toList = some out.toArray := by
            have e2 : (parts.map fun x => (x.1, a.eval x.2)).toList = ((parts.toList.map fun p => a.eval p.2).zipIdx 0).map fun x => (x.2, x.1) := by
              rw [← dense_zip b4 a.eval]; simp
            rw [e2, j1, hi2]
            have := Go.Great.fill_whole b1 (parts.toList.map fun p => a.eval p.2) ((Array.range (n * ei.zero.length)).map (zv.cells[· % zv.cells.size]!)) j2 (by simp [b3])
            simpa using this
          refine ⟨.slice (some ⟨W.heap.size, 0, none⟩) n n, W.alloc (.cells out.toArray e), upd ρ st.nx (.slice (some ⟨W.heap.size, 0, none⟩) n n), st.add (.row e ei.zero.length n out), st.nx, ?_, ?_, by simp [St.add], ?_, rfl, hk, (Below.refl _ W).alloc (Nat.le_refl _) _⟩
          · by_cases hn : n = 0
            · subst hn
              have hp0 : parts = #[] := by
                have : parts.toList = [] := List.eq_nil_of_length_eq_zero b3
                rw [← Array.toArray_toList (xs := parts), this]
              subst hp0
              simp only [Nat.zero_mul] at hlen
              have : out = [] := List.eq_nil_of_length_eq_zero hlen
              subst this
              have hu := run_underlying (P := P) (w := W) hd
              have e0 : (Array.map (fun _ : Nat => (default : Value)) (Array.range 0)) = #[] := Array.eq_empty_of_size_eq_zero (by simp)
              simp [Instr.buildSlice, hu, sizeOf, typeInfo, hi1, Instr.fill, newRow, e0]
            · exact run_buildSlice W t e n _ out.toArray inf zv hd hi1 hi3 (by rw [hi2]; simpa using b2) (by rw [hi2]; intro h0; rcases Nat.mul_eq_zero.1 h0 with h0 | h0 <;> omega) hfill
          · simp [SV.den, upd_same, slOf]
          · exact h.rowLit e ei.zero.length n out hlen (by
              have : n ≤ n * ei.zero.length := Nat.le_mul_of_pos_right _ b1
              unfold maxLen; omega) (allOneV_spec h1v)
        · cases hk
      · cases hk
    · cases hk
  · cases hk
end Go.V
