/- The verification-condition framework, part Lc: operations that only add to memory. -/
import Derived.Test.YtaobaeiohjgdcaaVlb
namespace Go.V
open Go Go.RowKit
variable {P : Program}

/-- A call by contract; own variables among the arguments are made immutable. -/
def callM (P : Program) (st : St) (f : Nat) (as : List SV) (k : SV → St → Prop) : Prop :=
  frzAll true (fun st as => match vals as with
    | some vs => st.withM fun M => VFn P f vs M fun rs M' => st.memK M' (k (retSV rs))
    | none => VStuck 180) 12 st as
theorem op_callG {r : Option Nat} {n : Nat} {n₀ : Nat} {w : World} {M₀ : Mem} {ρ : Env} {st : St} {a : Act} {W : World} {o : Oper} {c : Call} {f : Operand} {R : Value → World → Prop} {K : Act → World → Prop} {Q : Exit → Act → World → Prop}
    (ho : o.op = .call c) (hc : c.callee = .value f) (h : Sat n₀ w M₀ ρ st a W) {sf : SV} {g : Nat} {args as : List SV} (hf : st.ev f = some sf) (ha : evs st c.args.toList = some args) (hg : callee sf args = some (g, as))
    (hent : Enters P g) (hcalls : (∀ s ∈ as, s.sc st.nx) → Calls P g (as.map (SV.den ρ)).toArray W fun e W' => ∃ v, e = .returned v ∧ R v W') (hR : ∀ v W', R v W' → K (a.put o.dst v) W') : o.wpIn (Fw r) n P a W K Q := by
  obtain ⟨e1, e2⟩ := h.ev hf
  obtain ⟨i1, i2⟩ := evs_spec h ha
  have hargs : c.args.map a.eval = (args.map (SV.den ρ)).toArray := by
    apply Array.ext'
    rw [Array.toList_map, i1]
  -- the function value, its bound and its captured values
  obtain ⟨fst, cap, hfv, hall, hsc⟩ : ∃ fst cap : Array Value, sf.den ρ = .func (.func g) fst cap ∧ (fst ++ (args.map (SV.den ρ)).toArray ++ cap) = (as.map (SV.den ρ)).toArray ∧ ∀ s ∈ as, s.sc st.nx := by
    unfold callee at hg
    split at hg
    · rename_i g' fst cap
      simp only [Option.some.injEq, Prod.mk.injEq] at hg
      obtain ⟨rfl, rfl⟩ := hg
      refine ⟨_, _, rfl, ?_, ?_⟩
      · apply Array.ext'
        have : SV.den ρ ∘ At.sv = At.den ρ := funext (At.sv_den ρ)
        simp [this]
      · intro s hs
        simp only [List.mem_append, List.mem_map] at hs
        rcases hs with (⟨x, hx, rfl⟩ | hs) | ⟨x, hx, rfl⟩
        · exact At.sv_sc (e2.1 x hx)
        · exact i2 s hs
        · exact At.sv_sc (e2.2 x hx)
    · rename_i g' fst cap
      simp only [Option.some.injEq, Prod.mk.injEq] at hg
      obtain ⟨rfl, rfl⟩ := hg
      refine ⟨fst, cap, rfl, ?_, ?_⟩
      · apply Array.ext'
        have : SV.den ρ ∘ SV.v = id := rfl
        simp [this]
      · intro s hs
        simp only [List.mem_append, List.mem_map] at hs
        rcases hs with (⟨x, hx, rfl⟩ | hs) | ⟨x, hx, rfl⟩
        · trivial
        · exact i2 s hs
        · trivial
    · cases hg
  refine ⟨fun _ _ => trivial, ?_⟩
  have hrun : (execOp a.eval o).run P W = .ok (.enter g (as.map (SV.den ρ)).toArray) W := by
    simp only [execOp, ho, resolve, hc, e1, hfv, Deferred.ofValue, Sem.run_bind, Sem.run_pure, Result.andThen_ok, invoke, hargs]
    rw [hent, ← hall]
  rw [Oper.semAt_plain _ _ _ (fun c' => by rw [ho]; simp), hrun]
  refine ⟨fun h => (by cases h), ?_⟩
  refine (calls_fw (hcalls hsc)).mono ?_
  rintro e W' ⟨v, rfl, hv⟩
  exact hR v W' hv

/-- A store of what is there already. -/
def stoS (te : List (Nat × TI)) (st : St) (t : TypeId) (p v : SV) (k : Prop) : Prop :=
  match look te t with
  | none => VStuck 191
  | some i => match p with
    | .box id off => match st.own id with
      | some (.box _ cs) => match v.cells with
        | some vs => match Nat.beq vs.length i.zero.length && Nat.ble (off + vs.length) cs.length && allOne vs with
          | true => VFact (splice cs off vs = cs) k
          | false => VStuck 192
        | none => VStuck 193
      | _ => VStuck 194
    | _ => VStuck 195
theorem setRow_same {W : World} {B : Nat} {cs : Array Value} {t : TypeId} (h : W.heap[B]? = some (.cells cs t (0, 0))) : W.setRow B cs = W := by
  cases W
  simp only [World.setRow, World.mk.injEq, and_true]
  apply Array.ext_getElem?
  intro i
  rw [Array.getElem?_modify]
  by_cases e : B = i
  · subst e
    simp only at h
    rw [if_pos rfl, h]
    rfl
  · rw [if_neg e]
theorem stoS_sound {te : List (Nat × TI)} (hte : TEOK P te) {n₀ : Nat} {w : World} {M₀ : Mem} {ρ : Env} {st : St} {a : Act} {W : World} (h : Sat n₀ w M₀ ρ st a W) {t : TypeId} {p v : SV} {k : Prop}
    (hk : stoS te st t p v k) : (Instr.storeAt t (p.den ρ) (v.den ρ)).run P W = .ok () W ∧ k := by
  unfold stoS at hk
  cases hi : look te t with
  | none => simp only [hi] at hk; cases hk
  | some i =>
    simp only [hi] at hk
    have hT := hte t i hi
    cases p with
    | box id off =>
      simp only at hk
      cases hid : st.own id with
      | none => simp only [hid] at hk; cases hk
      | some e =>
        simp only [hid] at hk
        cases e with
        | row => simp only at hk; cases hk
        | box t' cs =>
          simp only at hk
          cases hc : v.cells with
          | none => simp only [hc] at hk; cases hk
          | some vs =>
            simp only [hc] at hk
            cases hb : (Nat.beq vs.length i.zero.length && Nat.ble (off + vs.length) cs.length && allOne vs) with
            | false => simp only [hb] at hk; cases hk
            | true =>
              simp only [hb] at hk
              obtain ⟨hsp, hk⟩ := hk.both
              refine ⟨?_, hk⟩
              simp only [Bool.and_eq_true] at hb
              obtain ⟨⟨hb1, hb2⟩, hb3⟩ := hb
              have hb1 := Nat.eq_of_beq_eq_true hb1
              have hb2 := Nat.le_of_ble_eq_true hb2
              obtain ⟨g1, g2, B, hr, hn, hh⟩ := h.h.own id _ hid
              have hcd := cells_den (ρ := ρ) hc
              have hst := run_storeCells_at P B off t' (vs.map (SV.den ρ)) 0 (cs.map (SV.den ρ)).toArray W hh (by simpa using hb2) (allOne_den hb3)
              have hsame : (((cs.map (SV.den ρ)).toArray.toList.take (off + 0) ++ vs.map (SV.den ρ) ++ (cs.map (SV.den ρ)).toArray.toList.drop (off + 0 + (vs.map (SV.den ρ)).length)).toArray) = (cs.map (SV.den ρ)).toArray := by
                have := congrArg (fun l => (l.map (SV.den ρ)).toArray) hsp
                simp only [splice] at this
                simpa [List.map_take, List.map_drop] using this
              rw [hsame, setRow_same hh] at hst
              have e1 : SV.den ρ (.box id off) = .pointer (some ⟨B, off, none⟩) := by simp [SV.den, hr, blkOf]
              rw [e1]
              generalize SV.den ρ v = x at hcd
              have h2 := hT.sizeOf W
              rw [← hb1] at h2
              simp only [Instr.storeAt, Instr.sureAddr, Sem.run_bind, Sem.run_pure, Result.andThen_ok, storeVar, hcd, h2]
              simp only [List.size_toArray, List.length_map, ne_eq, not_true_eq_false, if_false]
              simpa using hst
    | v x => simp only at hk; cases hk
    | row id => simp only at hk; cases hk
    | clo f x y => simp only at hk; cases hk
    | tup l => simp only at hk; cases hk

def stepM (C : VX) (P : Program) (st : St) (o : Oper) (k : St → Prop) : Prop :=
  match o.op with
  | .alloc t => match look C.te t with
    | some i => st.addK (.box t (i.zero.map .v)) fun st' id => st'.putv o.dst (.box id 0) k
    | none => VStuck 181
  | .box t x => match st.ev x with
    | some s => match s.cells with
      | some cs => st.addK (.box t cs) fun st' id => st'.putv o.dst (.box id 0) k
      | none => VStuck 182
    | none => VStuck 183
  | .store t x y => match st.ev x, st.ev y, o.dst with | some p, some v, none => stoS C.te st t p v (k st) | _, _, _ => VStuck 196
  | .buildSlice t n parts => frzOps st (parts.toList.map (·.2)) fun st => bldS C st t n parts fun st' id => st'.putv o.dst (.row id) k
  | .build t parts => frzOps st (parts.toList.map (·.2)) fun st => bld C st t parts fun s => st.putv o.dst s k
  | .call c => match c.callee with
    | .value f => match st.ev f, evs st c.args.toList with
      | some sf, some args => match callee sf args with
        | some (g, as) => callM P st g as fun s st' => st'.putv o.dst s k
        | none => VStuck 184
      | _, _ => VStuck 185
    | _ => VStuck 186
  | _ => VStuck 187
theorem stepM_sound {C : VX} (hC : VXOK P C) {r : Option Nat} {n : Nat} {n₀ : Nat} {w : World} {M₀ : Mem} {ρ : Env} {st : St} {a : Act} {W : World} {o : Oper} {k : St → Prop} {Q : Exit → Act → World → Prop}
    (hk : stepM C P st o k) (h : Sat n₀ w M₀ ρ st a W) : o.wpIn (Fw r) n P a W (fun a' W' => Below W.heap.size W W' ∧ KOf n₀ w M₀ st.G k a' W') Q := by
  unfold stepM at hk
  split at hk
  · rename_i t ho
    split at hk
    · rename_i i hi
      obtain ⟨z, hz1, hz2⟩ := (hC.te _ _ hi).zeroValue W
      have hb := h.box t (i.zero.map .v) (fun s hs => by simp only [List.mem_map] at hs; obtain ⟨x, _, rfl⟩ := hs; trivial)
      have e : ((i.zero.map SV.v).map (SV.den ρ)).toArray = i.zero.toArray := by
        have : SV.den ρ ∘ SV.v = id := rfl
        simp [this]
      rw [e] at hb
      obtain ⟨j1, j2⟩ := putv_elim (addK_iff hk) hb (by simp [SV.sc, St.add])
      refine op_val (fun c => by rw [ho]; simp) ?_ ⟨(Below.refl _ W).alloc (Nat.le_refl _) _, _, _, j1, by rw [put_G]; exact Gh.le_refl _, j2⟩
      simp [execOp, ho, Instr.alloc, hz1, newVar, newRow, hz2, SV.den, upd_same, blkOf]
    · cases hk
  · rename_i t x ho
    split at hk
    · rename_i s hs
      obtain ⟨e1, e2⟩ := h.ev hs
      split at hk
      · rename_i cs hcs
        have hb := h.box t cs (cells_sc hcs e2)
        obtain ⟨j1, j2⟩ := putv_elim (addK_iff hk) hb (by simp [SV.sc, St.add])
        refine op_val (fun c => by rw [ho]; simp) ?_ ⟨(Below.refl _ W).alloc (Nat.le_refl _) _, _, _, j1, by rw [put_G]; exact Gh.le_refl _, j2⟩
        have hcd := cells_den (ρ := ρ) hcs
        generalize SV.den ρ s = sv at hcd e1
        simp [execOp, ho, Instr.box, newVar, newRow, e1, hcd, SV.den, upd_same, blkOf]
      · cases hk
    · cases hk
  · rename_i t x y ho
    split at hk
    · rename_i p v hp hv hd
      obtain ⟨e1, _⟩ := h.ev hp
      obtain ⟨f1, f2⟩ := h.ev hv
      obtain ⟨q1, q3⟩ := stoS_sound hC.te h hk
      refine op_skip (W' := W) (fun c => by rw [ho]; simp) (by simp only [execOp, ho, e1, f1, Sem.run_bind, q1, Result.andThen_ok, Sem.run_pure]) ?_
      rw [hd]
      exact ⟨Below.refl _ W, ρ, st, h, Gh.le_refl _, q3⟩
    · cases hk
  · rename_i t m parts ho
    obtain ⟨st0, h0, hG0, hk⟩ := frzOps_sound h hk
    obtain ⟨v, W', ρ', st', id, q1, q2, q3, q4, qG, q5, q6⟩ := bldS_sound hC h0 hk
    obtain ⟨j1, j2⟩ := putv_elim q5 q4 q3
    refine op_val (fun c => by rw [ho]; simp) ?_ ⟨q6, ρ', _, j1, by rw [put_G, qG, hG0]; exact Gh.le_refl _, j2⟩
    simp only [execOp, ho, Sem.run_bind]
    rw [q1, q2]; rfl
  · rename_i t parts ho
    obtain ⟨st0, h0, hG0, hk⟩ := frzOps_sound h hk
    obtain ⟨s, q1, q2, q3⟩ := bld_sound hC h0 hk
    obtain ⟨j1, j2⟩ := putv_elim q3 h0 q1
    refine op_val (fun c => by rw [ho]; simp) ?_ ⟨Below.refl _ W, ρ, _, j1, by rw [put_G, hG0]; exact Gh.le_refl _, j2⟩
    simp only [execOp, ho, Sem.run_bind]
    rw [q2 W]; rfl
  · rename_i c ho
    split at hk
    · rename_i f hc
      split at hk
      · rename_i sf args hf ha
        split at hk
        · rename_i g as hg
          have hsc : ∀ s ∈ as, s.sc st.nx := by
            have e2 := (h.ev hf).2
            have i2 := (evs_spec h ha).2
            unfold callee at hg
            split at hg
            · rename_i g' fst cap
              simp only [Option.some.injEq, Prod.mk.injEq] at hg
              obtain ⟨rfl, rfl⟩ := hg
              intro s hs
              simp only [List.mem_append, List.mem_map] at hs
              rcases hs with (⟨x, hx, rfl⟩ | hs) | ⟨x, hx, rfl⟩
              · exact At.sv_sc (e2.1 x hx)
              · exact i2 s hs
              · exact At.sv_sc (e2.2 x hx)
            · simp only [Option.some.injEq, Prod.mk.injEq] at hg
              obtain ⟨rfl, rfl⟩ := hg
              intro s hs
              simp only [List.mem_append, List.mem_map] at hs
              rcases hs with (⟨x, hx, rfl⟩ | hs) | ⟨x, hx, rfl⟩
              · trivial
              · exact i2 s hs
              · trivial
            · cases hg
          obtain ⟨st1, as1, h1, e1, s1, t1, hk⟩ := frzAll_sound _ h hsc hk
          split at hk
          · rename_i vs hv
            obtain ⟨R, ⟨hent, hfn⟩, hk⟩ := withM_iff hk
            refine op_callG (R := fun v W' => ∃ rs M', v = ret rs ∧ Below W.heap.size W W' ∧ st1.M.le M' ∧ M'.ok W' ∧ (∀ b, b < W.heap.size → M' b = st1.M b) ∧ R rs M') ho hc h hf ha hg hent (fun _ => ?_) ?_
            · rw [← e1, vals_den hv]
              refine (hfn W h1.h.mem).mono ?_
              rintro e W' ⟨rs, M', rfl, g2, g3, g4, g5, g6⟩
              exact ⟨_, rfl, rs, M', rfl, g2, g3, g4, g5, g6⟩
            · rintro v W' ⟨rs, M', rfl, g2, g3, g4, g5, g6⟩
              have hs2 := h1.grow g2 g4 g5
              obtain ⟨j1, j2⟩ := putv_elim (s := retSV rs) (memK_iff (hk rs M' g3 g6)) hs2 (retSV_sc _ _)
              rw [retSV_den] at j1
              exact ⟨g2, ρ, _, j1, by rw [put_G]; show st.G.le st1.G; rw [t1]; exact Gh.le_refl _, j2⟩
          · cases hk
        · cases hk
      · cases hk
    · cases hk
  · cases hk
end Go.V
