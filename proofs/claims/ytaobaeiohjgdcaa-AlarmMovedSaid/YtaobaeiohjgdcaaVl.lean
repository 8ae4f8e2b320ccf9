/- The verification-condition framework, part L: one operation is sound. -/
import Derived.Test.YtaobaeiohjgdcaaVk
namespace Go.V
open Go Go.RowKit
variable {P : Program}

theorem val_sound {C : VX} (hC : VXOK P C) {n₀ : Nat} {w : World} {M₀ : Mem} {ρ : Env} {st : St} {a : Act} {W0 : World} {o : Oper} {k : SV → Prop} (hk : val C st o k) (h : Sat n₀ w M₀ ρ st a W0) :
    (∀ c, o.op ≠ .defer c) ∧ ∃ s, s.sc st.nx ∧ (∀ W, SatH n₀ w M₀ ρ st W → (execOp a.eval o).run P W = .ok (.value (s.den ρ)) W) ∧ k s := by
  unfold val at hk
  split at hk
  · rename_i x ho
    refine ⟨fun c => by rw [ho]; simp, ?_⟩
    split at hk
    · rename_i s hs
      obtain ⟨e1, e2⟩ := h.ev hs
      exact ⟨s, e2, fun W _ => by simp [execOp, ho, e1], hk⟩
    · cases hk
  · rename_i x ho
    refine ⟨fun c => by rw [ho]; simp, ?_⟩
    split at hk
    · rename_i s hs
      obtain ⟨e1, e2⟩ := h.ev hs
      exact ⟨s, e2, fun W _ => by simp [execOp, ho, e1], hk⟩
    · cases hk
  · rename_i c x y ho
    refine ⟨fun c => by rw [ho]; simp, ?_⟩
    split at hk
    · rename_i b hc
      have e0 := (h.ev hc).1
      obtain ⟨h1, h2⟩ := hk
      cases b with
      | true =>
        have hk := h1 rfl
        split at hk
        · rename_i s hs
          obtain ⟨e1, e2⟩ := h.ev hs
          exact ⟨s, e2, fun W _ => by simp [execOp, ho, e0, e1, SV.den, asBool], hk⟩
        · cases hk
      | false =>
        have hk := h2 rfl
        split at hk
        · rename_i s hs
          obtain ⟨e1, e2⟩ := h.ev hs
          exact ⟨s, e2, fun W _ => by simp [execOp, ho, e0, e1, SV.den, asBool], hk⟩
        · cases hk
    · cases hk
  · rename_i t x ho
    refine ⟨fun c => by rw [ho]; simp, ?_⟩
    split at hk
    · rename_i s hs
      obtain ⟨e1, e2⟩ := h.ev hs
      obtain ⟨q, q1, q2, q3⟩ := ld_sound hC.te h.h e2 hk
      exact ⟨q, q1, fun W hW => by simp [execOp, ho, e1, q2 W hW], q3⟩
    · cases hk
  · rename_i op t x y yt ho
    refine ⟨fun c => by rw [ho]; simp, ?_⟩
    split at hk
    · rename_i u v hu hv
      obtain ⟨e1, _⟩ := h.ev hu
      obtain ⟨f1, _⟩ := h.ev hv
      obtain ⟨q, q1, q2, q3⟩ := bin_sound (nx := st.nx) (ρ := ρ) hC hk x y
      refine ⟨q, q1, fun W _ => ?_, q3⟩
      simp only [execOp, ho, e1, f1]
      rw [Sem.run_bind, q2]
      rfl
    · cases hk
  · rename_i op t x ho
    refine ⟨fun c => by rw [ho]; simp, ?_⟩
    split at hk
    · rename_i s hs
      obtain ⟨e1, e2⟩ := h.ev hs
      obtain ⟨q, q1, q2, q3⟩ := un_sound (P := P) (nx := st.nx) (ρ := ρ) hk
      exact ⟨q, q1, fun W _ => by simp [execOp, ho, e1, q2], q3⟩
    · cases hk
  · rename_i src dst x ho
    refine ⟨fun c => by rw [ho]; simp, ?_⟩
    split at hk
    · rename_i s hs
      obtain ⟨e1, e2⟩ := h.ev hs
      obtain ⟨q, q1, q2, q3⟩ := conv_sound (nx := st.nx) (ρ := ρ) hC hk
      exact ⟨q, q1, fun W _ => by simp [execOp, ho, e1, q2], q3⟩
    · cases hk
  · rename_i x i ho
    refine ⟨fun c => by rw [ho]; simp, ?_⟩
    split at hk
    · rename_i s hs
      obtain ⟨e1, e2⟩ := h.ev hs
      obtain ⟨q, q1, q2, q3⟩ := extr_sound (P := P) (ρ := ρ) hk e2
      exact ⟨q, q1, fun W _ => by simp [execOp, ho, e1, q2], q3⟩
    · cases hk
  · rename_i t x f ho
    refine ⟨fun c => by rw [ho]; simp, ?_⟩
    split at hk
    · rename_i s hs
      obtain ⟨e1, e2⟩ := h.ev hs
      obtain ⟨q, q1, q2, q3⟩ := fldA_sound (ρ := ρ) hC hk e2
      exact ⟨q, q1, fun W _ => by simp [execOp, ho, e1, q2], q3⟩
    · cases hk
  · rename_i t x f ho
    refine ⟨fun c => by rw [ho]; simp, ?_⟩
    split at hk
    · rename_i s hs
      obtain ⟨e1, e2⟩ := h.ev hs
      obtain ⟨q, q1, q2, q3⟩ := fldV_sound (nx := st.nx) (ρ := ρ) hC hk
      exact ⟨q, q1, fun W _ => by simp [execOp, ho, e1, q2], q3⟩
    · cases hk
  · rename_i t x i ho
    refine ⟨fun c => by rw [ho]; simp, ?_⟩
    split at hk
    · rename_i u v hu hv
      obtain ⟨e1, e2⟩ := h.ev hu
      obtain ⟨f1, _⟩ := h.ev hv
      obtain ⟨q, q1, q2, q3⟩ := idx_sound (n₀ := n₀) (w := w) (M₀ := M₀) (ρ := ρ) hC hk e2
      exact ⟨q, q1, fun W hW => by simp [execOp, ho, e1, f1, q2 W hW], q3⟩
    · cases hk
  · rename_i t parts ho
    refine ⟨fun c => by rw [ho]; simp, ?_⟩
    obtain ⟨q, q1, q2, q3⟩ := bld_sound hC h hk
    refine ⟨q, q1, fun W _ => ?_, q3⟩
    simp only [execOp, ho, Sem.run_bind]
    rw [q2]; rfl
  · rename_i f fst cap ho
    refine ⟨fun c => by rw [ho]; simp, ?_⟩
    split at hk
    · rename_i u v hu hv
      obtain ⟨a1, a2⟩ := atoms_spec h hu
      obtain ⟨b1, b2⟩ := atoms_spec h hv
      refine ⟨.clo f u v, ⟨a2, b2⟩, fun W _ => ?_, hk⟩
      have x1 : fst.map a.eval = (u.map (At.den ρ)).toArray := by apply Array.ext'; rw [Array.toList_map, ← a1]
      have x2 : cap.map a.eval = (v.map (At.den ρ)).toArray := by apply Array.ext'; rw [Array.toList_map, ← b1]
      simp only [execOp, ho, Instr.makeFunc, Sem.run_bind, Sem.run_pure, Result.andThen_ok, x1, x2, SV.den]
    · cases hk
  · rename_i x ho
    refine ⟨fun c => by rw [ho]; simp, ?_⟩
    split at hk
    · rename_i id off hs
      obtain ⟨e1, e2⟩ := h.ev hs
      exact ⟨.box id off, e2, fun W _ => by simp [execOp, ho, e1, SV.den], hk⟩
    · rename_i ad hs
      obtain ⟨e1, e2⟩ := h.ev hs
      exact ⟨.v (.pointer (some ad)), e2, fun W _ => by simp [execOp, ho, e1, SV.den], hk⟩
    · cases hk
  · rename_i t x lo hi mx ho
    refine ⟨fun c => by rw [ho]; simp, ?_⟩
    split at hk
    · rename_i s hs
      obtain ⟨e1, e2⟩ := h.ev hs
      obtain ⟨q, q1, q2, q3⟩ := slc_sound hC h hk
      exact ⟨q, q1, fun W _ => by simp only [execOp, ho, e1, Sem.run_bind]; rw [q2]; rfl, q3⟩
    · cases hk
  · rename_i c ho
    refine ⟨fun c => by rw [ho]; simp, ?_⟩
    split at hk
    · -- len
      rename_i hc
      split at hk
      · rename_i x t hx ht
        split at hk
        · rename_i e z b s hl hs
          obtain ⟨e1, e2⟩ := h.ev hs
          obtain ⟨q, q1, q2, q3⟩ := lenOf_sound (ty := o.type) (n₀ := n₀) (w := w) (M₀ := M₀) (ρ := ρ) hC hk hl
          refine ⟨q, q1, fun W hW => ?_, q3⟩
          have x1 : c.args.map a.eval = #[s.den ρ] := by apply Array.ext'; rw [Array.toList_map, hx]; simp [e1]
          have x2 : c.argTypes = #[t] := by apply Array.ext'; rw [ht]
          simp only [execOp, ho, resolve, hc, x1, x2, Sem.run_bind, Sem.run_pure, Result.andThen_ok, invoke, builtin, q2 W hW]
        · cases hk
      · cases hk
    · -- max
      rename_i hc
      split at hk
      · rename_i l hl
        obtain ⟨i1, i2⟩ := evs_spec h hl
        split at hk
        · rename_i kk x rest hin
          obtain ⟨d1, _⟩ := intsOf_den (ρ := ρ) hin
          refine ⟨.v (.int kk (rest.foldl max x)), trivial, fun W _ => ?_, hk⟩
          have x1 : (c.args.map a.eval).toList = .int kk x :: rest.map (Value.int kk) := by rw [Array.toList_map, i1, d1]; rfl
          simp only [execOp, ho, resolve, hc, Sem.run_bind, Sem.run_pure, Result.andThen_ok, invoke, builtin, Builtin.max_]
          rw [x1]
          simp only [foldlM_max, SV.den, Result.andThen_ok]
        · cases hk
      · cases hk
    · -- min
      rename_i hc
      split at hk
      · rename_i l hl
        obtain ⟨i1, i2⟩ := evs_spec h hl
        split at hk
        · rename_i kk x rest hin
          obtain ⟨d1, _⟩ := intsOf_den (ρ := ρ) hin
          refine ⟨.v (.int kk (rest.foldl min x)), trivial, fun W _ => ?_, hk⟩
          have x1 : (c.args.map a.eval).toList = .int kk x :: rest.map (Value.int kk) := by rw [Array.toList_map, i1, d1]; rfl
          simp only [execOp, ho, resolve, hc, Sem.run_bind, Sem.run_pure, Result.andThen_ok, invoke, builtin, Builtin.min_]
          rw [x1]
          simp only [foldlM_min, SV.den, Result.andThen_ok]
        · cases hk
      · cases hk
    · cases hk
  · cases hk

theorem put_G (st : St) (d : Option Tmp) (s : SV) : (st.put d s).G = st.G := by cases d <;> rfl
theorem step_sound {C : VX} (hC : VXOK P C) {r : Option Nat} {n : Nat} {n₀ : Nat} {w : World} {M₀ : Mem} {ρ : Env} {st : St} {a : Act} {W : World} {o : Oper} {k : St → Prop} {Q : Exit → Act → World → Prop}
    (hk : step C P st o k) (h : Sat n₀ w M₀ ρ st a W) : o.wpIn (Fw r) n P a W (KOf n₀ w M₀ st.G k) Q := by
  have byVal : val C st o (fun s => st.putv o.dst s k) → o.wpIn (Fw r) n P a W (KOf n₀ w M₀ st.G k) Q := fun hv => by
    obtain ⟨hd, s, q1, q2, q3⟩ := val_sound hC hv h
    obtain ⟨j1, j2⟩ := putv_elim q3 h q1
    exact op_val hd (q2 W h.h) ⟨ρ, _, j1, by rw [put_G]; exact Gh.le_refl _, j2⟩
  unfold step at hk
  split at hk
  · rename_i t ho
    split at hk
    · rename_i i hi
      obtain ⟨z, hz1, hz2⟩ := (hC.te _ _ hi).zeroValue W
      have hb := h.box t (i.zero.map .v) (fun s hs => by simp only [List.mem_map] at hs; obtain ⟨x, _, rfl⟩ := hs; trivial)
      have e : ((i.zero.map SV.v).map (SV.den ρ)).toArray = i.zero.toArray := by
        have : SV.den ρ ∘ SV.v = id := rfl
        simp [this]
      rw [e] at hb
      obtain ⟨j1, j2⟩ := putv_elim (addK_iff hk) hb (by simp [SV.sc, St.add])
      refine op_val (fun c => by rw [ho]; simp) ?_ ⟨_, _, j1, by rw [put_G]; exact Gh.le_refl _, j2⟩
      simp [execOp, ho, Instr.alloc, hz1, newVar, newRow, hz2, SV.den, upd_same, blkOf]
    · cases hk
  · rename_i t x ho
    split at hk
    · rename_i s hs
      obtain ⟨e1, e2⟩ := h.ev hs
      split at hk
      · rename_i cs hcs
        have hb := h.box t cs (cells_sc hcs e2)
        obtain ⟨j1, j2⟩ := putv_elim (addK_iff hk) hb (by simp [SV.sc, St.add])
        refine op_val (fun c => by rw [ho]; simp) ?_ ⟨_, _, j1, by rw [put_G]; exact Gh.le_refl _, j2⟩
        have hcd := cells_den (ρ := ρ) hcs
        generalize SV.den ρ s = sv at hcd e1
        simp [execOp, ho, Instr.box, newVar, newRow, e1, hcd, SV.den, upd_same, blkOf]
      · cases hk
    · cases hk
  · rename_i t x y ho
    split at hk
    · rename_i p v hp hv hd
      obtain ⟨e1, _⟩ := h.ev hp
      obtain ⟨f1, f2⟩ := h.ev hv
      obtain ⟨W', st', q1, q2, _, qG, q3⟩ := sto_sound hC.te h f2 hk
      refine op_skip (W' := W') (fun c => by rw [ho]; simp) (by simp only [execOp, ho, e1, f1, Sem.run_bind, q1, Result.andThen_ok, Sem.run_pure]) ?_
      rw [hd]
      exact ⟨ρ, st', q2, by rw [qG]; exact Gh.le_refl _, q3⟩
    · cases hk
  · rename_i t m parts ho
    obtain ⟨st0, h0, hG0, hk⟩ := frzOps_sound h hk
    obtain ⟨v, W', ρ', st', id, q1, q2, q3, q4, qG, q5, _⟩ := bldS_sound hC h0 hk
    obtain ⟨j1, j2⟩ := putv_elim q5 q4 q3
    refine op_val (fun c => by rw [ho]; simp) ?_ ⟨ρ', _, j1, by rw [put_G, qG, hG0]; exact Gh.le_refl _, j2⟩
    simp only [execOp, ho, Sem.run_bind]
    rw [q1, q2]; rfl
  · rename_i t parts ho
    obtain ⟨st0, h0, hG0, hk⟩ := frzOps_sound h hk
    obtain ⟨s, q1, q2, q3⟩ := bld_sound hC h0 hk
    obtain ⟨j1, j2⟩ := putv_elim q3 h0 q1
    refine op_val (fun c => by rw [ho]; simp) ?_ ⟨ρ, _, j1, by rw [put_G, hG0]; exact Gh.le_refl _, j2⟩
    simp only [execOp, ho, Sem.run_bind]
    rw [q2 W]; rfl
  · split at hk
    · split at hk
      · rename_i hid
        have hsc := (h.h.own _ _ hid).2.1
        obtain ⟨st0, as', h0, _, _, hG0, hk⟩ := frzAll_sound _ h hsc hk
        obtain ⟨hd, s, q1, q2, q3⟩ := val_sound hC hk h0
        obtain ⟨j1, j2⟩ := putv_elim q3 h0 q1
        exact op_val hd (q2 W h0.h) ⟨ρ, _, j1, by rw [put_G, hG0]; exact Gh.le_refl _, j2⟩
      · exact byVal hk
    · exact byVal hk
  · rename_i c ho
    split at hk
    · -- append
      rename_i hc
      split at hk
      · rename_i s x t t' hx ht
        split at hk
        · rename_i u v hb hu hv
          have hb := Nat.eq_of_beq_eq_true hb
          subst hb
          obtain ⟨e1, e2⟩ := h.ev hu
          obtain ⟨f1, f2⟩ := h.ev hv
          obtain ⟨vv, W', ρ', st', s', q1, q2, q3, q4, qG, q5⟩ := app_sound (ty := o.type) hC h e2 hk
          obtain ⟨j1, j2⟩ := putv_elim q5 q4 q3
          refine op_val (fun c => by rw [ho]; simp) ?_ ⟨ρ', _, j1, by rw [put_G, qG]; exact Gh.le_refl _, j2⟩
          have x1 : c.args.map a.eval = #[u.den ρ, v.den ρ] := by apply Array.ext'; rw [Array.toList_map, hx]; simp [e1, f1]
          have x2 : c.argTypes = #[t, t] := by apply Array.ext'; rw [ht]
          simp only [execOp, ho, resolve, hc, x1, x2, Sem.run_bind, Sem.run_pure, Result.andThen_ok, invoke, builtin, q1, q2]
        · cases hk
      · cases hk
    · -- a function
      rename_i f hc
      split at hk
      · rename_i sf args hf ha
        split at hk
        · rename_i g as hg
          exact op_call ho hc h hf ha hg hk
        · cases hk
      · cases hk
    · exact byVal hk
  · exact byVal hk
end Go.V
