/- The verification-condition framework, part Lc: operations that only add to memory. -/
import Derived.Test.YtdfhnemhkpplbaaGreatDoorHa2
set_option linter.unusedVariables false
set_option linter.unusedSimpArgs false
namespace Go.V
open Go Go.RowKit
variable {P : Program}
def callM (P : Program) (st : St) (f : Nat) (as : List SV) (k : SV → St → Prop) : Prop :=
 frzAll true (fun st as => match vals as with
  | some vs => st.withM fun M => VFn P f vs M fun rs M' => st.memK M' (k (retSV rs))
  | none => VStuck 180) 12 st as
theorem op_callG {r : Option Nat} {n : Nat} {n₀ : Nat} {w : World} {M₀ : Mem} {ρ : Env} {st : St} {a : Act} {W : World} {o : Oper} {c : Call} {f : Operand} {R : Value → World → Prop} {K : Act → World → Prop} {Q : Exit → Act → World → Prop}
  (ho : o.op = .call c) (hc : c.callee = .value f) (h : Sat n₀ w M₀ ρ st a W) {sf : SV} {g : Nat} {args as : List SV} (hf : st.ev f = some sf) (ha : evs st c.args.toList = some args) (hg : callee sf args = some (g, as))
  (hent : Enters P g) (hcalls : (∀ s ∈ as, s.sc st.nx) → Calls P g (as.map (SV.den ρ)).toArray W fun e W' => ∃ v, e = .returned v ∧ R v W') (hR : ∀ v W', R v W' → K (a.put o.dst v) W') : o.wpIn (Fw r) n P a W K Q := by
 obtain ⟨e1, e2⟩ := h.ev hf
 obtain ⟨i1, i2⟩ := evs_spec h ha
 have hargs : c.args.map a.eval = (args.map (SV.den ρ)).toArray := by
  apply Array.ext'
  rw [Array.toList_map, i1]
 -- the function value, its bound and its captured values
 obtain ⟨fst, cap, hfv, hall, hsc⟩ : ∃ fst cap : Array Value, sf.den ρ = .func (.func g) fst cap ∧ (fst ++ (args.map (SV.den ρ)).toArray ++ cap) = (as.map (SV.den ρ)).toArray ∧ ∀ s ∈ as, s.sc st.nx := by
  unfold callee at hg
  split at hg
  ·rename_i g' fst cap
   simp only [Option.some.injEq, Prod.mk.injEq] at hg
   obtain ⟨rfl, rfl⟩ := hg
   refine ⟨_, _, rfl, ?_, ?_⟩
   ·apply Array.ext'
    have : SV.den ρ ∘ At.sv = At.den ρ := funext (At.sv_den ρ)
    simp [this]
   ·intro s hs
    simp only [List.mem_append, List.mem_map] at hs
    rcases hs with (⟨x, hx, rfl⟩ | hs) | ⟨x, hx, rfl⟩
    ·exact At.sv_sc (e2.1 x hx)
    ·exact i2 s hs
    ·exact At.sv_sc (e2.2 x hx)
  ·rename_i g' fst cap
   simp only [Option.some.injEq, Prod.mk.injEq] at hg
   obtain ⟨rfl, rfl⟩ := hg
   refine ⟨fst, cap, rfl, ?_, ?_⟩
   ·apply Array.ext'
    have : SV.den ρ ∘ SV.v = id := rfl
    simp [this]
   ·intro s hs
    simp only [List.mem_append, List.mem_map] at hs
    rcases hs with (⟨x, hx, rfl⟩ | hs) | ⟨x, hx, rfl⟩
    ·trivial
    ·exact i2 s hs
    ·trivial
  ·cases hg
 refine ⟨fun _ _ => trivial, ?_⟩
 have hrun : (execOp a.eval o).run P W = .ok (.enter g (as.map (SV.den ρ)).toArray) W := by
  simp only [execOp, ho, resolve, hc, e1, hfv, Deferred.ofValue, Sem.run_bind, Sem.run_pure, Result.andThen_ok, invoke, hargs]
  rw [hent, ← hall]
 rw [Oper.semAt_plain _ _ _ (fun c' => by rw [ho]; simp), hrun]
 refine ⟨fun h => (by cases h), ?_⟩
 refine (calls_fw (hcalls hsc)).mono ?_
 rintro e W' ⟨v, rfl, hv⟩
 exact hR v W' hv
def stoS (te : List (Nat × TI)) (st : St) (t : TypeId) (p v : SV) (k : Prop) : Prop :=
 match look te t with
 | none => VStuck 191
 | some i => match p with
  | .box id off => match st.own id with
   | some (.box _ cs) => match v.cells with
    | some vs => match Nat.beq vs.length i.zero.length && Nat.ble (off + vs.length) cs.length && allOne vs with
     | true => VFact (splice cs off vs = cs) k
     | false => VStuck 192
    | none => VStuck 193
   | _ => VStuck 194
  | _ => VStuck 195
theorem setRow_same {W : World} {B : Nat} {cs : Array Value} {t : TypeId} (h : W.heap[B]? = some (.cells cs t (0, 0))) : W.setRow B cs = W := by
 cases W
 simp only [World.setRow, World.mk.injEq, and_true]
 apply Array.ext_getElem?
 intro i
 rw [Array.getElem?_modify]
 by_cases e : B = i
 ·subst e
  simp only at h
  rw [if_pos rfl, h]
  rfl
 ·rw [if_neg e]
theorem stoS_sound {te : List (Nat × TI)} (hte : TEOK P te) {n₀ : Nat} {w : World} {M₀ : Mem} {ρ : Env} {st : St} {a : Act} {W : World} (h : Sat n₀ w M₀ ρ st a W) {t : TypeId} {p v : SV} {k : Prop}
  (hk : stoS te st t p v k) : (Instr.storeAt t (p.den ρ) (v.den ρ)).run P W = .ok () W ∧ k := by
 unfold stoS at hk
 cases hi : look te t with
 | none => simp only [hi] at hk; cases hk
 | some i =>
  simp only [hi] at hk
  have hT := hte t i hi
  cases p with
  | box id off =>
   simp only at hk
   cases hid : st.own id with
   | none => simp only [hid] at hk; cases hk
   | some e =>
    simp only [hid] at hk
    cases e with
    | row => simp only at hk; cases hk
    | gh => simp only at hk; cases hk
    | vw => simp only at hk; cases hk
    | mp => simp only at hk; cases hk
    | nw => simp only at hk; cases hk
    | box t' cs =>
     simp only at hk
     cases hc : v.cells with
     | none => simp only [hc] at hk; cases hk
     | some vs =>
      simp only [hc] at hk
      cases hb : (Nat.beq vs.length i.zero.length && Nat.ble (off + vs.length) cs.length && allOne vs) with
      | false => simp only [hb] at hk; cases hk
      | true =>
       simp only [hb] at hk
       obtain ⟨hsp, hk⟩ := hk.both
       refine ⟨?_, hk⟩
       simp only [Bool.and_eq_true] at hb
       obtain ⟨⟨hb1, hb2⟩, hb3⟩ := hb
       have hb1 := Nat.eq_of_beq_eq_true hb1
       have hb2 := Nat.le_of_ble_eq_true hb2
       obtain ⟨g1, g2, B, hr, hn, hh⟩ := h.h.own id _ hid
       have hcd := cells_den (ρ := ρ) hc
       have hst := run_storeCells_at P B off t' (vs.map (SV.den ρ)) 0 (cs.map (SV.den ρ)).toArray W hh (by simpa using hb2) (allOne_den hb3)
       have hsame : (((cs.map (SV.den ρ)).toArray.toList.take (off + 0) ++ vs.map (SV.den ρ) ++ (cs.map (SV.den ρ)).toArray.toList.drop (off + 0 + (vs.map (SV.den ρ)).length)).toArray) = (cs.map (SV.den ρ)).toArray := by
        have := congrArg (fun l => (l.map (SV.den ρ)).toArray) hsp
        simp only [splice] at this
        simpa [List.map_take, List.map_drop] using this
       rw [hsame, setRow_same hh] at hst
       have e1 : SV.den ρ (.box id off) = .pointer (some ⟨B, off, none⟩) := by simp [SV.den, hr, blkOf]
       rw [e1]
       generalize SV.den ρ v = x at hcd
       have h2 := hT.sizeOf W
       rw [← hb1] at h2
       simp only [Instr.storeAt, Instr.sureAddr, Sem.run_bind, Sem.run_pure, Result.andThen_ok, storeVar, hcd, h2]
       simp only [List.size_toArray, List.length_map, ne_eq, not_true_eq_false, if_false]
       simpa using hst
  | v x => simp only at hk; cases hk
  | row id => simp only at hk; cases hk
  | clo f x y => simp only at hk; cases hk
  | tup l => simp only at hk; cases hk
def stepM (C : VX) (P : Program) (st : St) (o : Oper) (k : St → Prop) : Prop :=
 match o.op with
 | .alloc t => match look C.te t with
  | some i => st.addK (.box t (i.zero.map .v)) fun st' id => st'.putv o.dst (.box id 0) k
  | none => VStuck 181
 | .box t x => match st.ev x with
  | some s => match s.cells with
   | some cs => st.addK (.box t cs) fun st' id => st'.putv o.dst (.box id 0) k
   | none => VStuck 182
  | none => VStuck 183
 | .store t x y => match st.ev x, st.ev y, o.dst with | some p, some v, none => stoS C.te st t p v (k st) | _, _, _ => VStuck 196
 | .buildSlice t n parts => frzOps st (parts.toList.map (·.2)) fun st => bldS C st t n parts fun st' id => st'.putv o.dst (.row id) k
 | .build t parts => frzOps st (parts.toList.map (·.2)) fun st => bld C st t parts fun s => st.putv o.dst s k
 | .call c => match c.callee with
  | .value f => match st.ev f, evs st c.args.toList with
   | some sf, some args => match callee sf args with
    | some (g, as) => callM P st g as fun s st' => st'.putv o.dst s k
    | none => VStuck 184
   | _, _ => VStuck 185
  | _ => VStuck 186
 | _ => VStuck 187
theorem stepM_sound {C : VX} (hC : VXOK P C) {r : Option Nat} {n : Nat} {n₀ : Nat} {w : World} {M₀ : Mem} {ρ : Env} {st : St} {a : Act} {W : World} {o : Oper} {k : St → Prop} {Q : Exit → Act → World → Prop}
  (hk : stepM C P st o k) (h : Sat n₀ w M₀ ρ st a W) : o.wpIn (Fw r) n P a W (fun a' W' => Below W.heap.size W W' ∧ KOf n₀ w M₀ st.G k a' W') Q := by
 unfold stepM at hk
 split at hk
 ·rename_i t ho
  split at hk
  ·rename_i i hi
   obtain ⟨z, hz1, hz2⟩ := (hC.te _ _ hi).zeroValue W
   have hb := h.box t (i.zero.map .v) (fun s hs => by simp only [List.mem_map] at hs; obtain ⟨x, _, rfl⟩ := hs; trivial)
   have e : ((i.zero.map SV.v).map (SV.den ρ)).toArray = i.zero.toArray := by
    have : SV.den ρ ∘ SV.v = id := rfl
    simp [this]
   rw [e] at hb
   obtain ⟨j1, j2⟩ := putv_elim (addK_iff hk) hb (by simp [SV.sc, St.add])
   refine op_val (fun c => by rw [ho]; simp) ?_ ⟨(Below.refl _ W).alloc (Nat.le_refl _) _, _, _, j1, by rw [put_G]; exact Gh.le_refl _, j2⟩
   simp [execOp, ho, Instr.alloc, hz1, newVar, newRow, hz2, SV.den, upd_same, blkOf]
  ·cases hk
 ·rename_i t x ho
  split at hk
  ·rename_i s hs
   obtain ⟨e1, e2⟩ := h.ev hs
   split at hk
   ·rename_i cs hcs
    have hb := h.box t cs (cells_sc hcs e2)
    obtain ⟨j1, j2⟩ := putv_elim (addK_iff hk) hb (by simp [SV.sc, St.add])
    refine op_val (fun c => by rw [ho]; simp) ?_ ⟨(Below.refl _ W).alloc (Nat.le_refl _) _, _, _, j1, by rw [put_G]; exact Gh.le_refl _, j2⟩
    have hcd := cells_den (ρ := ρ) hcs
    generalize SV.den ρ s = sv at hcd e1
    simp [execOp, ho, Instr.box, newVar, newRow, e1, hcd, SV.den, upd_same, blkOf]
   ·cases hk
  ·cases hk
 ·rename_i t x y ho
  split at hk
  ·rename_i p v hp hv hd
   obtain ⟨e1, _⟩ := h.ev hp
   obtain ⟨f1, f2⟩ := h.ev hv
   obtain ⟨q1, q3⟩ := stoS_sound hC.te h hk
   refine op_skip (W' := W) (fun c => by rw [ho]; simp) (by simp only [execOp, ho, e1, f1, Sem.run_bind, q1, Result.andThen_ok, Sem.run_pure]) ?_
   rw [hd]
   exact ⟨Below.refl _ W, ρ, st, h, Gh.le_refl _, q3⟩
  ·cases hk
 ·rename_i t m parts ho
  obtain ⟨st0, h0, hG0, hk⟩ := frzOps_sound h hk
  obtain ⟨v, W', ρ', st', id, q1, q2, q3, q4, qG, q5, q6⟩ := bldS_sound hC h0 hk
  obtain ⟨j1, j2⟩ := putv_elim q5 q4 q3
  refine op_val (fun c => by rw [ho]; simp) ?_ ⟨q6, ρ', _, j1, by rw [put_G, qG, hG0]; exact Gh.le_refl _, j2⟩
  simp only [execOp, ho, Sem.run_bind]
  rw [q1, q2]; rfl
 ·rename_i t parts ho
  obtain ⟨st0, h0, hG0, hk⟩ := frzOps_sound h hk
  obtain ⟨s, q1, q2, q3⟩ := bld_sound hC h0 hk
  obtain ⟨j1, j2⟩ := putv_elim q3 h0 q1
  refine op_val (fun c => by rw [ho]; simp) ?_ ⟨Below.refl _ W, ρ, _, j1, by rw [put_G, hG0]; exact Gh.le_refl _, j2⟩
  simp only [execOp, ho, Sem.run_bind]
  rw [q2 W]; rfl
 ·rename_i c ho
  split at hk
  ·rename_i f hc
   split at hk
   ·rename_i sf args hf ha
    split at hk
    ·rename_i g as hg
     have hsc : ∀ s ∈ as, s.sc st.nx := by
      have e2 := (h.ev hf).2
      have i2 := (evs_spec h ha).2
      unfold callee at hg
      split at hg
      ·rename_i g' fst cap
       simp only [Option.some.injEq, Prod.mk.injEq] at hg
       obtain ⟨rfl, rfl⟩ := hg
       intro s hs
       simp only [List.mem_append, List.mem_map] at hs
       rcases hs with (⟨x, hx, rfl⟩ | hs) | ⟨x, hx, rfl⟩
       ·exact At.sv_sc (e2.1 x hx)
       ·exact i2 s hs
       ·exact At.sv_sc (e2.2 x hx)
      ·simp only [Option.some.injEq, Prod.mk.injEq] at hg
       obtain ⟨rfl, rfl⟩ := hg
       intro s hs
       simp only [List.mem_append, List.mem_map] at hs
       rcases hs with (⟨x, hx, rfl⟩ | hs) | ⟨x, hx, rfl⟩
       ·trivial
       ·exact i2 s hs
       ·trivial
      ·cases hg
     obtain ⟨st1, as1, h1, e1, s1, t1, hk⟩ := frzAll_sound _ h hsc hk
     split at hk
     ·rename_i vs hv
      obtain ⟨R, ⟨hent, hfn⟩, hk⟩ := withM_iff hk
      refine op_callG (R := fun v W' => ∃ rs M', v = ret rs ∧ Below W.heap.size W W' ∧ st1.M.le M' ∧ M'.ok W' ∧ (∀ b, b < W.heap.size → M' b = st1.M b) ∧ R rs M') ho hc h hf ha hg hent (fun _ => ?_) ?_
      ·rw [← e1, vals_den hv]
       refine (hfn W h1.h.mem).mono ?_
       rintro e W' ⟨rs, M', rfl, g2, g3, g4, g5, g6⟩
       exact ⟨_, rfl, rs, M', rfl, g2, g3, g4, g5, g6⟩
      ·rintro v W' ⟨rs, M', rfl, g2, g3, g4, g5, g6⟩
       have hs2 := h1.grow g2 g4 g5
       obtain ⟨j1, j2⟩ := putv_elim (s := retSV rs) (memK_iff (hk rs M' g3 g6)) hs2 (retSV_sc _ _)
       rw [retSV_den] at j1
       exact ⟨g2, ρ, _, j1, by rw [put_G]; show st.G.le st1.G; rw [t1]; exact Gh.le_refl _, j2⟩
     ·cases hk
    ·cases hk
   ·cases hk
  ·cases hk
 ·cases hk
end Go.V
namespace Go.V
open Go Go.RowKit
variable {P : Program}
inductive Ex where
 | normal
 | ret
 | exit (id : Nat)
def exOf : Exit → Option Ex
 | .normal => some .normal
 | .ret => some .ret
 | .exit id => some (.exit id)
 | _ => none
structure Bs where
 n₀ : Nat
 w : World
 M₀ : Mem
abbrev Yt := Option (Lp × List (List Value))
def KK (κ : Yt → Bs → Prop) (G : Gh) (k : St → Prop) : Act → World → Prop := fun a W => ∃ B ρ st, κ st.G.Y B ∧ Sat B.n₀ B.w B.M₀ ρ st a W ∧ G.lq st.G ∧ k st
def YOK (r : Option Nat) (P : Program) (κ : Yt → Bs → Prop) : Prop :=
 ∀ (L : Lp) tag args rest B M W, κ (some (L, tag :: rest)) B → Below B.n₀ B.w W → B.n₀ ≤ W.heap.size → Mem.ok M W → (∀ b, b < B.n₀ → M b = B.M₀ b) → L.says tag args M → ∀ n, YieldAt (Fw r) n P L.id args.toArray W fun e W' =>
  ∃ M', M'.ok W' ∧ ((e = .returned (.bool true) ∧ L.turn M true M' ∧ κ (some (L, rest)) ⟨W'.heap.size, W', M'⟩) ∨ (e = .returned (.bool false) ∧ L.turn M false M' ∧ κ none ⟨W'.heap.size, W', M'⟩))
def Keep (fx : Nat → Prop) (tm : Array Value) (a : Act) : Prop := ∀ d, fx d → a.tmps[d]? = tm[d]?
def wr (fx : Nat → Prop) : Code → Prop
 | .region _ ops _ => ∀ o ∈ ops.toList, ∀ d, o.dst = some d → ¬ fx d
 | .seq a b => wr fx a ∧ wr fx b
 | .cond _ a b => wr fx a ∧ wr fx b
 | .block _ c => wr fx c
 | .loop c => wr fx c
 | .scope c => wr fx c
 | _ => True
theorem Keep.put {fx : Nat → Prop} {tm : Array Value} {a : Act} (h : Keep fx tm a) {d : Option Tmp} (hd : ∀ t, d = some t → ¬ fx t) (v : Value) : Keep fx tm (a.put d v) := by
 intro e he
 cases d with
 | none => exact h e he
 | some d =>
  have hne : d ≠ e := fun x => hd d rfl (x ▸ he)
  simp only [Act.put]
  rw [Array.getElem?_setIfInBounds_ne hne]
  exact h e he
theorem op_keep {F : Fence} {n : Nat} {o : Oper} {a : Act} {W : World} {next : Act → World → Prop} {Q : Exit → Act → World → Prop} {fx : Nat → Prop} {tm : Array Value} (h : o.wpIn F n P a W next Q)
  (hd : ∀ t, o.dst = some t → ¬ fx t) (hk : Keep fx tm a) : o.wpIn F n P a W (fun a' W' => next a' W' ∧ Keep fx tm a') Q := by
 refine ⟨h.1, ?_⟩
 have h2 := h.2
 revert h2
 generalize (o.semAt F.round a.eval).run P W = res
 intro h2
 unfold Oper.uponIn at h2 ⊢
 split at h2
 ·exact ⟨h2, hk.put hd _⟩
 ·exact ⟨h2, hk.put hd _⟩
 ·exact ⟨h2, Keep.put (a := { a with defers := _ :: a.defers }) hk hd _⟩
 ·refine ⟨h2.1, h2.2.mono ?_⟩
  intro e W' he
  cases e with
  | returned v => exact ⟨he, hk.put hd _⟩
  | panicked => exact he
  | outgrown => exact he
 ·refine ⟨h2.1, h2.2.mono ?_⟩
  intro v W' he
  exact ⟨he, hk.put hd _⟩
 ·refine ⟨h2.1, h2.2.mono ?_⟩
  intro e W' he
  cases e with
  | returned v => exact ⟨he, hk.put hd _⟩
  | panicked => exact he
  | outgrown => exact he
 ·exact h2
 ·exact h2.elim
def Post (κ : Yt → Bs → Prop) (G : Gh) (Q : Ex → St → Prop) (fx : Nat → Prop) (tm : Array Value) : Exit → Act → World → Prop := fun e a W => (∃ ex, exOf e = some ex ∧ KK κ G (Q ex) a W) ∧ Keep fx tm a
def RoundOK (r : Option Nat) (G : Mem) : Prop := ∀ l, r = some l → ∃ rec, G l = some (.loop rec)
theorem RoundOK.le {r : Option Nat} {G G' : Mem} (h : RoundOK r G) (hl : G.le G') : RoundOK r G' := fun l hr => let ⟨rec, h1⟩ := h l hr; ⟨rec, hl _ _ h1⟩
structure VCode (P : Program) (c : Code) (st : St) (Q : Ex → St → Prop) : Prop where
 run : ∀ r n κ B ρ a W fx tm, YOK r P κ → RoundOK r st.G.m → κ st.G.Y B → Sat B.n₀ B.w B.M₀ ρ st a W → wr fx c → Keep fx tm a → c.wpIn (Fw r) n P (Post κ st.G Q fx tm) a W
inductive VYield (l : Nat) (args : List Value) (M : Mem) (G : Gh) (K : Value → Gh → Mem → Prop) : Prop
 | mk (rest : List (List Value)) (hG : G = ⟨fun _ => none, some (l, args :: rest), fun _ => none⟩) (h1 : K (.bool true) ⟨fun _ => none, some (l, rest), fun _ => none⟩ M) (h2 : K (.bool false) ⟨fun _ => none, none, fun _ => none⟩ M)
 | tb (X : Lx) (tag : List Value) (rest : List (List Value)) (hG : G = ⟨fun _ => none, some (⟨l, some X⟩, tag :: rest), fun _ => none⟩) (hR : X.R tag args M) (h1 : ∀ M', X.T M true M' → K (.bool true) ⟨fun _ => none, some (⟨l, some X⟩, rest), fun _ => none⟩ M') (h2 : ∀ M', X.T M false M' → K (.bool false) ⟨fun _ => none, none, fun _ => none⟩ M')
theorem VYield.both {l : Nat} {args : List Value} {M : Mem} {G : Gh} {K : Value → Gh → Mem → Prop} (h : VYield l args M G K) : ∃ (L : Lp) (tag : List Value) (rest : List (List Value)), L.id = l ∧ G = ⟨fun _ => none, some (L, tag :: rest), fun _ => none⟩ ∧ L.says tag args M ∧
  (∀ M', L.turn M true M' → K (.bool true) ⟨fun _ => none, some (L, rest), fun _ => none⟩ M') ∧ ∀ M', L.turn M false M' → K (.bool false) ⟨fun _ => none, none, fun _ => none⟩ M' := by
 cases h with
 | mk rest hG h1 h2 => exact ⟨⟨l, none⟩, args, rest, rfl, hG, rfl, fun M' e => by cases e; exact h1, fun M' e => by cases e; exact h2⟩
 | tb X tag rest hG hR h1 h2 => exact ⟨⟨l, some X⟩, tag, rest, rfl, hG, hR, h1, h2⟩
def yieldK (l : Nat) (args : List Value) (st : St) (k : Value → St → Prop) : Prop :=
 match st with
 | ⟨sl, _, nx, M, nt, G⟩ => VYield l args M G fun v G' M' => k v ⟨sl, [], nx, M', nt, G'⟩
def stepY (C : VX) (P : Program) (st : St) (o : Oper) (k : St → Prop) : Prop :=
 match o.op with
 | .call c => match c.callee with
  | .value f => match st.ev f with
   | some (.v (.func (.yield l) fst cap)) => match fst.toList, cap.toList, evs st c.args.toList with
    | [], [], some avs => frzAll true (fun st avs => match vals avs with
     | some vs => yieldK l vs st fun v st' => st'.putv o.dst (.v v) k
     | none => VStuck 160) 12 st avs
    | _, _, _ => VStuck 161
   | _ => step C P st o k
  | _ => step C P st o k
 | _ => step C P st o k
theorem KK_of_KOf {κ : Yt → Bs → Prop} {B : Bs} {G : Gh} {k : St → Prop} {a : Act} {W : World} (hκ : κ G.Y B) (h : KOf B.n₀ B.w B.M₀ G k a W) : KK κ G k a W := by
 obtain ⟨ρ, st, h1, h2, h3⟩ := h
 exact ⟨B, ρ, st, by rw [h2.2]; exact hκ, h1, h2.1, h3⟩
theorem marks_nil {n₀ : Nat} {G : Mem} {ds : List Deferred} (h : Marks n₀ G ds) (hG : ∀ b, G b = none) : ds = [] := by
 cases ds with
 | nil => rfl
 | cons d ds => obtain ⟨⟨D, _, h2, _⟩, _⟩ := h; rw [hG] at h2; cases h2
theorem stepY_sound {C : VX} (hC : VXOK P C) {r : Option Nat} {n : Nat} {κ : Yt → Bs → Prop} (hY : YOK r P κ) {B : Bs} {ρ : Env} {st : St} {a : Act} {W : World} {o : Oper} {k : St → Prop} {Q : Exit → Act → World → Prop}
  (hk : stepY C P st o k) (hκ : κ st.G.Y B) (h : Sat B.n₀ B.w B.M₀ ρ st a W) : o.wpIn (Fw r) n P a W (KK κ st.G k) Q := by
 have old : step C P st o k → o.wpIn (Fw r) n P a W (KK κ st.G k) Q := fun hk => Oper.wpIn_mono (fun _ _ hq => KK_of_KOf hκ hq) (step_sound hC hk h)
 unfold stepY at hk
 split at hk
 ·rename_i c ho
  split at hk
  ·rename_i f hc
   split at hk
   ·rename_i l fst cap hf
    split at hk
    ·rename_i avs hfst hcap hev
     have hfst' : fst = #[] := by apply Array.ext'; simpa using hfst
     have hcap' : cap = #[] := by apply Array.ext'; simpa using hcap
     subst hfst'; subst hcap'
     obtain ⟨e1, _⟩ := h.ev hf
     obtain ⟨i1, i2⟩ := evs_spec h hev
     obtain ⟨st1, as1, h1, e2, _, t1, hk⟩ := frzAll_sound _ h i2 hk
     split at hk
     ·rename_i vs hvs
      have hargs : c.args.map a.eval = vs.toArray := by
       apply Array.ext'
       rw [Array.toList_map, i1, ← e2, vals_den hvs]
      obtain ⟨sl, ow, nx, M, nt, G⟩ := st1
      simp only [yieldK] at hk
      obtain ⟨L, tag, rest, hL, hG, hR, k1, k2⟩ := hk.both
      subst hG
      subst hL
      have hds : a.defers = [] := marks_nil h1.marks (fun _ => rfl)
      have hb := h1.h.below
      have hsz := h1.h.size
      have hm := h1.h.mem
      have hlow := h1.h.mlow
      rw [← t1] at hκ
      have hmG : st.G.m = fun _ => none := by rw [← t1]
      have hfG : st.G.f = fun _ => none := by rw [← t1]
      refine ⟨fun _ _ => trivial, ?_⟩
      obtain ⟨fn, tmps, assign, body, hy, hround⟩ := hY L tag vs rest B M W hκ hb hsz hm hlow hR (n - 1)
      have hrun : (execOp a.eval o).run P W = .ok (.round L.id fn tmps assign body) W := by
       simp only [execOp, ho, resolve, hc, e1, SV.den, Deferred.ofValue, Sem.run_bind, Sem.run_pure, Result.andThen_ok, invoke, hargs]
       simp [hy]
      rw [Oper.semAt_plain _ _ _ (fun c' => by rw [ho]; simp), hrun]
      refine ⟨fun h => (by cases h), ?_⟩
      refine hround.mono ?_
      have fin : ∀ (M : Mem) (v : Value) (Y : Yt) (W' : World), M.ok W' → κ Y ⟨W'.heap.size, W', M⟩ → St.putv ⟨sl, [], nx, M, nt, ⟨fun _ => none, Y, fun _ => none⟩⟩ o.dst (.v v) k → KK κ st.G k (a.put o.dst v) W' := by
       intro M v Y W' hM' hκ' hput
       have hs : Sat W'.heap.size W' M ρ ⟨sl, [], nx, M, nt, ⟨fun _ => none, Y, fun _ => none⟩⟩ a W' := by
        refine ⟨⟨Below.refl _ _, Nat.le_refl _, hM', ?_, ?_, ?_, ?_, fun _ _ => rfl, fun b o hb => by cases hb⟩, h1.nt, h1.sl, by rw [hds]; trivial⟩
        ·intro id e he; simp [St.own, look] at he
        ·intro i j ei ej hi; simp [St.own, look] at hi
        ·intro i e b hi; simp [St.own, look] at hi
        ·intro b o hb; cases hb
       obtain ⟨j1, j2⟩ := putv_elim hput hs trivial
       refine ⟨⟨W'.heap.size, W', M⟩, ρ, _, ?_, j1, ?_, j2⟩
       ·rw [put_G]; exact hκ'
       ·refine ⟨(by rw [hmG]; intro b o hb; cases hb), ?_⟩
        rw [hfG, put_G]
      rintro e W' ⟨M2, hM', ⟨rfl, ht, hκ'⟩ | ⟨rfl, ht, hκ'⟩⟩
      ·exact fin _ _ _ _ hM' hκ' (k1 _ ht)
      ·exact fin _ _ _ _ hM' hκ' (k2 _ ht)
     ·cases hk
    ·cases hk
   ·exact old hk
  ·exact old hk
 ·exact old hk
def St.lit (st : St) (d : Nat) (b : Bool) : St := { st with sl := (d, .v (.bool b)) :: st.sl }
theorem Sat.lit {n₀ : Nat} {w : World} {M₀ : Mem} {ρ : Env} {st : St} {a : Act} {W : World} (h : Sat n₀ w M₀ ρ st a W) {d : Nat} {b : Bool} (hd : look st.sl d = some (.v (.bool b))) : Sat n₀ w M₀ ρ (st.lit d b) a W := by
 refine ⟨h.h.same rfl rfl rfl rfl, h.nt, ?_, h.marks⟩
 intro e s he
 simp only [St.lit, look_cons] at he
 split at he
 ·rename_i hed
  subst hed
  cases he
  exact h.sl e _ hd
 ·exact h.sl e s he
def St.litK (st : St) (d : Nat) (b : Bool) (k : St → Prop) : Prop :=
 match st with
 | ⟨sl, ow, nx, M, nt, G⟩ => k ⟨(d, .v (.bool b)) :: sl, ow, nx, M, nt, G⟩
theorem litK_iff {st : St} {d : Nat} {b : Bool} {k : St → Prop} (h : st.litK d b k) : k (st.lit d b) := by cases st; exact h
def guardV (ops : List Oper) (st : St) (o : Oper) (A B : St → Prop) : Prop :=
 match o.guard with
 | none => A st
 | some (j, want) => match ops[j]? with
  | some oj => match oj.dst with
   | some d => match look st.sl d with
    | some (.v (.bool b)) => match want with
     | true => VIf b (st.litK d true A) (st.litK d false B)
     | false => VIf b (st.litK d true B) (st.litK d false A)
    | some (.v (.tuple _)) => B st
    | _ => VStuck 140
   | none => VStuck 141
  | none => VStuck 142
theorem guard_soundM {n₀ : Nat} {w : World} {M₀ : Mem} {ρ : Env} {st : St} {a : Act} {W : World} (h : Sat n₀ w M₀ ρ st a W) {ops : Array Oper} {o : Oper} {A B : St → Prop} (hg : guardV ops.toList st o A B) :
  ∃ st', Sat n₀ w M₀ ρ st' a W ∧ st'.G = st.G ∧ st'.M = st.M ∧ ((Region.wanted o (yielded ops a.tmps) = true ∧ A st') ∨ (Region.wanted o (yielded ops a.tmps) = false ∧ B st')) := by
 unfold guardV at hg
 split at hg
 ·rename_i ho
  exact ⟨st, h, rfl, rfl, .inl ⟨by simp [Region.wanted, ho], hg⟩⟩
 ·rename_i j want ho
  split at hg
  ·rename_i oj hj
   have hj' : ops[j]? = some oj := by simpa using hj
   split at hg
   ·rename_i d hd
    split at hg
    ·rename_i b hl
     have hy : yielded ops a.tmps j = some b := by
      obtain ⟨_, _, h3⟩ := h.sl d _ hl
      simp [yielded, hj', hd, h3, SV.den]
     split at hg
     ·obtain ⟨h1, h2⟩ := hg
      cases b with
      | true => exact ⟨_, h.lit hl, rfl, rfl, .inl ⟨by simp [Region.wanted, ho, hy], litK_iff (h1 rfl)⟩⟩
      | false => exact ⟨_, h.lit hl, rfl, rfl, .inr ⟨by simp [Region.wanted, ho, hy], litK_iff (h2 rfl)⟩⟩
     ·obtain ⟨h1, h2⟩ := hg
      cases b with
      | true => exact ⟨_, h.lit hl, rfl, rfl, .inr ⟨by simp [Region.wanted, ho, hy], litK_iff (h1 rfl)⟩⟩
      | false => exact ⟨_, h.lit hl, rfl, rfl, .inl ⟨by simp [Region.wanted, ho, hy], litK_iff (h2 rfl)⟩⟩
    ·rename_i vs hl
     have hy : yielded ops a.tmps j = none := by
      obtain ⟨_, _, h3⟩ := h.sl d _ hl
      simp [yielded, hj', hd, h3, SV.den]
     exact ⟨st, h, rfl, rfl, .inr ⟨by simp [Region.wanted, ho, hy], hg⟩⟩
    ·cases hg
   ·cases hg
  ·cases hg
theorem guard_sound {n₀ : Nat} {w : World} {M₀ : Mem} {ρ : Env} {st : St} {a : Act} {W : World} (h : Sat n₀ w M₀ ρ st a W) {ops : Array Oper} {o : Oper} {A B : St → Prop} (hg : guardV ops.toList st o A B) :
  ∃ st', Sat n₀ w M₀ ρ st' a W ∧ st'.G = st.G ∧ ((Region.wanted o (yielded ops a.tmps) = true ∧ A st') ∨ (Region.wanted o (yielded ops a.tmps) = false ∧ B st')) :=
 let ⟨st', h1, h2, _, h4⟩ := guard_soundM h hg
 ⟨st', h1, h2, h4⟩
def vcOps (C : VX) (P : Program) (ops : List Oper) : List Oper → St → (St → Prop) → Prop
 | [], st, k => k st
 | o :: r, st, k => guardV ops st o (fun st => stepY C P st o fun st' => vcOps C P ops r st' k) (fun st => st.putv o.dst (.v (.tuple #[])) fun st' => vcOps C P ops r st' k)
theorem vcOps_sound {C : VX} (hC : VXOK P C) {r : Option Nat} {n : Nat} {κ : Yt → Bs → Prop} (hY : YOK r P κ) {fx : Nat → Prop} {tm : Array Value} {ops : Array Oper} {k : St → Prop} {G : Gh} {Q : Exit → Act → World → Prop} (hQ : ∀ a W, KK κ G k a W → Keep fx tm a → Q .normal a W) :
  ∀ (l : List Oper) {B : Bs} {ρ : Env} {st : St} {a : Act} {W : World}, vcOps C P ops.toList l st k → κ st.G.Y B → Sat B.n₀ B.w B.M₀ ρ st a W → G.lq st.G → (∀ o ∈ l, ∀ d, o.dst = some d → ¬ fx d) → Keep fx tm a → wpListIn (Fw r) n P ops Q l a W
 | [], B, ρ, st, a, W, hk, hκ, h, hG, _, hkp => hQ a W ⟨B, ρ, st, hκ, h, hG, hk⟩ hkp
 | o :: l, B, ρ, st, a, W, hk, hκ, h, hG, hw, hkp => by
  simp only [vcOps] at hk
  obtain ⟨st1, h1, hG1, hcase⟩ := guard_sound h hk
  have hwo := hw o (List.mem_cons_self)
  have hwl := fun o' (ho' : o' ∈ l) => hw o' (List.mem_cons_of_mem _ ho')
  refine wpListIn_step fun K hK => ?_
  rcases hcase with ⟨hw', hA⟩ | ⟨hw', hB⟩
  ·rw [if_pos hw']
   refine Oper.wpIn_mono ?_ (op_keep (stepY_sound hC hY hA (by rw [hG1]; exact hκ) h1) hwo hkp)
   rintro a' W' ⟨⟨B', ρ', st', hκ', h2, hG2, h3⟩, hkp'⟩
   exact hK _ _ (vcOps_sound hC hY hQ l h3 hκ' h2 (hG.trans (by rw [← hG1]; exact hG2)) hwl hkp')
  ·rw [if_neg (by rw [hw']; exact Bool.false_ne_true)]
   refine ⟨fun _ _ => trivial, ?_⟩
   obtain ⟨j1, j2⟩ := putv_elim hB h1 (by trivial)
   exact hK _ _ (vcOps_sound hC hY hQ l j2 (by rw [put_G, hG1]; exact hκ) j1 (by rw [put_G, hG1]; exact hG) hwl (hkp.put hwo _))
def madeHere (ops : List Oper) : Operand → Bool
 | .tmp d => ops.any fun o => (match o.dst with | some e => Nat.beq d e | none => false) && match o.op with | .buildSlice .. => true | _ => false
 | _ => false
def isVal (ops : List Oper) (o : Oper) : Bool :=
 match o.op with
 | .build _ parts => parts.toList.all fun p => !madeHere ops p.2
 | .move _ => true | .assign _ => true | .pick .. => true | .load .. => true | .binOp .. => true | .unOp .. => true | .convert .. => true | .extract .. => true | .fieldAddr .. => true | .field .. => true
 | .indexAddr .. => true | .lookup .. => true | .index .. => true | .makeFunc .. => true | .nilCheck _ => true | .slice .. => true
 | .call c => match c.callee with | .builtin .len => true | .builtin .max => true | .builtin .min => true | _ => false
 | _ => false
def ordGo (ops : List Oper) (tab : List Nat) : Nat → List Nat → List (Nat × Nat)
 | 0, _ => []
 | f + 1, done =>
  let rdy := (List.range ops.length).filter fun i => !done.any (Nat.beq i) && match ops[i]? with | some o => (bindsOn o).all (fun k => done.any (Nat.beq k)) | none => false
  match rdy.find? (fun i => match ops[i]? with | some o => isVal ops o | none => false) with
  | some i => (i, 0) :: ordGo ops tab f (i :: done)
  | none => match rdy with
   | i :: _ => (i, if done.all (anc tab i) then 2 else 1) :: ordGo ops tab f (i :: done)
   | [] => []
def ordOf (ops : List Oper) : List (Nat × Nat) := ordGo ops (tabOf ops) ops.length []
def vcOrd (C : VX) (P : Program) (ops : List Oper) : List (Nat × Nat) → St → (St → Prop) → Prop
 | [], st, k => k st
 | (i, m) :: rest, st, k => match ops[i]? with
  | none => VStuck 190
  | some o => match m with
   | 0 => guardV ops st o (fun st => val C P st o fun s => st.putv o.dst s fun st' => vcOrd C P ops rest st' k) (fun st => st.putv o.dst (.v (.tuple #[])) fun st' => vcOrd C P ops rest st' k)
   | 1 => guardV ops st o (fun st => stepM C P st o fun st' => vcOrd C P ops rest st' k) (fun st => st.putv o.dst (.v (.tuple #[])) fun st' => vcOrd C P ops rest st' k)
   | _ => guardV ops st o (fun st => stepY C P st o fun st' => vcOrd C P ops rest st' k) (fun st => st.putv o.dst (.v (.tuple #[])) fun st' => vcOrd C P ops rest st' k)
inductive VDraw (ops : Array Oper) (K : List (Nat × Nat) → Prop) (F F2 : List Nat → List (Nat × Nat) → Prop) (F3 : Prop) : Prop
 | mk (ord : List (Nat × Nat)) (tab : List Nat) (h : drawOK ops ord tab = true) (hk : K ord)
 | fz (ds : List Nat) (ord : List (Nat × Nat)) (tab : List Nat) (h : drawOK ops ord tab = true) (hk : F ds ord)
 | mem (ds : List Nat) (ord : List (Nat × Nat)) (tab : List Nat) (h : drawOK ops ord tab = true) (hk : F2 ds ord)
 | code (hk : F3)
theorem VDraw.go {ops : Array Oper} {K : List (Nat × Nat) → Prop} {F F2 : List Nat → List (Nat × Nat) → Prop} {F3 : Prop} (h : drawOK ops (ordOf ops.toList) (tabOf ops.toList) = true) (hk : K (ordOf ops.toList)) : VDraw ops K F F2 F3 := .mk _ _ h hk
theorem VDraw.frz {ops : Array Oper} {K : List (Nat × Nat) → Prop} {F F2 : List Nat → List (Nat × Nat) → Prop} {F3 : Prop} (ds : List Nat) (h : drawOK ops (ordOf ops.toList) (tabOf ops.toList) = true) (hk : F ds (ordOf ops.toList)) : VDraw ops K F F2 F3 := .fz ds _ _ h hk
def svOf (st : St) : List Nat → List SV
 | [] => []
 | d :: r => match look st.sl d with
  | some s => s :: svOf st r
  | none => svOf st r
theorem svOf_sc {st : St} {nx : Nat} (h : ∀ d s, look st.sl d = some s → s.sc nx) : ∀ (ds : List Nat), ∀ s ∈ svOf st ds, s.sc nx
 | [], s, hs => by cases hs
 | d :: r, s, hs => by
  simp only [svOf] at hs
  split at hs
  ·rename_i s' hd
   rcases List.mem_cons.1 hs with rfl | hs
   ·exact h d _ hd
   ·exact svOf_sc h r s hs
  ·exact svOf_sc h r s hs
def frzSl (st : St) (ds : List Nat) (k : St → Prop) : Prop := frzAll true (fun st' _ => k st') 12 st (svOf st ds)
theorem frzSl_sound {n₀ : Nat} {w : World} {M₀ : Mem} {a : Act} {W : World} {k : St → Prop} {ρ : Env} {st : St} {ds : List Nat} (h : Sat n₀ w M₀ ρ st a W) (hk : frzSl st ds k) : ∃ st', Sat n₀ w M₀ ρ st' a W ∧ st'.G = st.G ∧ k st' := by
 obtain ⟨st', avs', g1, _, _, g4, g5⟩ := frzAll_sound _ h (svOf_sc (fun d s hd => (h.sl d s hd).2.1) ds) hk
 exact ⟨st', g1, g4, g5⟩
theorem vcOrd_sound {C : VX} (hC : VXOK P C) {r : Option Nat} {n : Nat} {κ : Yt → Bs → Prop} (hY : YOK r P κ) {fx : Nat → Prop} {tm : Array Value} {ops : Array Oper} {k : St → Prop} {G : Gh} {Q : Exit → Act → World → Prop} (hQ : ∀ a W, KK κ G k a W → Keep fx tm a → Q .normal a W) (hw : ∀ o ∈ ops.toList, ∀ d, o.dst = some d → ¬ fx d) :
  ∀ (l : List (Nat × Nat)) {B : Bs} {ρ : Env} {st : St} {a : Act} {W : World}, vcOrd C P ops.toList l st k → κ st.G.Y B → Sat B.n₀ B.w B.M₀ ρ st a W → G.lq st.G → Keep fx tm a → eag WR.below (Fw r) n P ops Q l a W := by
 intro l
 induction l with
 | nil => intro B ρ st a W hk hκ h hG hkp; exact hQ a W ⟨B, ρ, st, hκ, h, hG, hk⟩ hkp
 | cons x rest ih =>
  obtain ⟨i, m⟩ := x
  intro B ρ st a W hk hκ h hG hkp
  simp only [vcOrd] at hk
  split at hk
  ·cases hk
  ·rename_i o ho
   have ho' : ops[i]? = some o := by simpa using ho
   have hwo := hw o (List.mem_of_getElem? ho)
   have skip : ∀ {st1 : St}, Sat B.n₀ B.w B.M₀ ρ st1 a W → st1.G = st.G → (st1.putv o.dst (.v (.tuple #[])) fun st' => vcOrd C P ops.toList rest st' k) → eag WR.below (Fw r) n P ops Q rest (a.put o.dst undef) W := by
    intro st1 h1 hG1 hB
    obtain ⟨j1, j2⟩ := putv_elim hB h1 (by trivial)
    exact ih j2 (by rw [put_G, hG1]; exact hκ) j1 (by rw [put_G, hG1]; exact hG) (hkp.put hwo _)
   refine ⟨o, ho', ?_⟩
   match m, hk with
   | 0, hk =>
    obtain ⟨st1, h1, hG1, hcase⟩ := guard_sound h hk
    rcases hcase with ⟨hw', hA⟩ | ⟨hw', hB⟩
    ·obtain ⟨_, s, q1, q2, q3⟩ := val_sound hC hA h1
     obtain ⟨j1, j2⟩ := putv_elim q3 h1 q1
     refine ⟨s.den ρ, fun W' hb => .inl ⟨hw', q2 W' ?_⟩, fun _ _ _ _ => trivial, ih j2 (by rw [put_G, hG1]; exact hκ) j1 (by rw [put_G, hG1]; exact hG) (hkp.put hwo _)⟩
     refine h1.h.grow hb (M' := st1.M) ?_ (fun _ _ => rfl)
     intro b o hb'
     have := h1.h.mem b o hb'
     rw [hb.block b (Array.getElem?_eq_some_iff.1 this).1]; exact this
    ·exact ⟨undef, fun W' hb => .inr ⟨hw', rfl⟩, fun _ _ _ _ => trivial, skip h1 hG1 hB⟩
   | 1, hk =>
    obtain ⟨st1, h1, hG1, hcase⟩ := guard_sound h hk
    unfold wpOpIn
    simp only [ho']
    rcases hcase with ⟨hw', hA⟩ | ⟨hw', hB⟩
    ·rw [if_pos hw']
     refine Oper.wpIn_mono ?_ (op_keep (stepM_sound hC hA h1) hwo hkp)
     rintro a' W' ⟨⟨hb, hK⟩, hkp'⟩
     obtain ⟨B', ρ', st', hκ', g1, g2, g3⟩ := KK_of_KOf (B := B) (κ := κ) (by rw [hG1]; exact hκ) hK
     exact ⟨hb, ih g3 hκ' g1 (hG.trans (by rw [← hG1]; exact g2)) hkp'⟩
    ·rw [if_neg (by rw [hw']; exact Bool.false_ne_true)]
     exact ⟨fun _ _ => trivial, Below.refl _ _, skip h1 hG1 hB⟩
   | m + 2, hk =>
    obtain ⟨st1, h1, hG1, hcase⟩ := guard_sound h hk
    show wpOpIn (Fw r) n P ops Q i (eag WR.below (Fw r) n P ops Q rest) a W
    unfold wpOpIn
    simp only [ho']
    rcases hcase with ⟨hw', hA⟩ | ⟨hw', hB⟩
    ·rw [if_pos hw']
     refine Oper.wpIn_mono ?_ (op_keep (stepY_sound hC hY hA (by rw [hG1]; exact hκ) h1) hwo hkp)
     rintro a' W' ⟨⟨B', ρ', st', hκ', g1, g2, g3⟩, hkp'⟩
     exact ih g3 hκ' g1 (hG.trans (by rw [← hG1]; exact g2)) hkp'
    ·rw [if_neg (by rw [hw']; exact Bool.false_ne_true)]
     exact ⟨fun _ _ => trivial, skip h1 hG1 hB⟩
def barV (C : VX) (P : Program) (M0 : Mem) (st : St) (o : Oper) (k : SV → Prop) : Prop :=
 match st with
 | ⟨sl, _, nx, _, nt, _⟩ => val C P ⟨sl, [], nx, M0, nt, ⟨fun _ => none, none, fun _ => none⟩⟩ o k
def vcOrdF (C : VX) (P : Program) (ops : List Oper) (M0 : Mem) : List (Nat × Nat) → St → (St → Prop) → Prop
 | [], st, k => k st
 | (i, m) :: rest, st, k => match ops[i]? with
  | none => VStuck 190
  | some o => match m with
   | 0 => guardV ops st o (fun st => barV C P M0 st o fun s => st.putv o.dst s fun st' => vcOrdF C P ops M0 rest st' k) (fun st => st.putv o.dst (.v (.tuple #[])) fun st' => vcOrdF C P ops M0 rest st' k)
   | _ => guardV ops st o (fun st => step C P st o fun st' => st'.withM fun M' => VFact (M0.le M') (vcOrdF C P ops M0 rest st' k)) (fun st => st.putv o.dst (.v (.tuple #[])) fun st' => vcOrdF C P ops M0 rest st' k)
def KeepW (B : Bs) (M0 : Mem) (W : World) : Prop := Below B.n₀ B.w W ∧ B.n₀ ≤ W.heap.size ∧ M0.ok W
theorem vcOrdF_sound {C : VX} (hC : VXOK P C) {r : Option Nat} {n : Nat} {κ : Yt → Bs → Prop} {fx : Nat → Prop} {tm : Array Value} {ops : Array Oper} {k : St → Prop} {G : Gh} {Q : Exit → Act → World → Prop} (hQ : ∀ a W, KK κ G k a W → Keep fx tm a → Q .normal a W) (hw : ∀ o ∈ ops.toList, ∀ d, o.dst = some d → ¬ fx d) {B : Bs} {M0 : Mem} (hlow : ∀ b, b < B.n₀ → M0 b = B.M₀ b) :
  ∀ (l : List (Nat × Nat)) {ρ : Env} {st : St} {a : Act} {W : World}, vcOrdF C P ops.toList M0 l st k → κ st.G.Y B → Sat B.n₀ B.w B.M₀ ρ st a W → G.lq st.G → Keep fx tm a → M0.le st.M → eag (WR.keep (KeepW B M0)) (Fw r) n P ops Q l a W := by
 intro l
 induction l with
 | nil => intro ρ st a W hk hκ h hG hkp _; exact hQ a W ⟨B, ρ, st, hκ, h, hG, hk⟩ hkp
 | cons x rest ih =>
  obtain ⟨i, m⟩ := x
  intro ρ st a W hk hκ h hG hkp hle
  simp only [vcOrdF] at hk
  split at hk
  ·cases hk
  ·rename_i o ho
   have ho' : ops[i]? = some o := by simpa using ho
   have hwo := hw o (List.mem_of_getElem? ho)
   have putM : ∀ (st : St) (d : Option Tmp) (s : SV), (st.put d s).M = st.M := fun st d s => by cases d <;> rfl
   have skip : ∀ {st1 : St}, Sat B.n₀ B.w B.M₀ ρ st1 a W → st1.G = st.G → M0.le st1.M → (st1.putv o.dst (.v (.tuple #[])) fun st' => vcOrdF C P ops.toList M0 rest st' k) → eag (WR.keep (KeepW B M0)) (Fw r) n P ops Q rest (a.put o.dst undef) W := by
    intro st1 h1 hG1 hM1 hB
    obtain ⟨j1, j2⟩ := putv_elim hB h1 (by trivial)
    exact ih j2 (by rw [put_G, hG1]; exact hκ) j1 (by rw [put_G, hG1]; exact hG) (hkp.put hwo _) (by rw [putM]; exact hM1)
   have kw : ∀ {ρ' : Env} {st' : St} {a' : Act} {W' : World}, Sat B.n₀ B.w B.M₀ ρ' st' a' W' → M0.le st'.M → KeepW B M0 W' := fun h hl => ⟨h.h.below, h.h.size, fun b o hb => h.h.mem b o (hl b o hb)⟩
   refine ⟨o, ho', ?_⟩
   match m, hk with
   | 0, hk =>
    obtain ⟨st1, h1, hG1, hM1, hcase⟩ := guard_soundM h hk
    have hM1' : M0.le st1.M := by rw [hM1]; exact hle
    rcases hcase with ⟨hw', hA⟩ | ⟨hw', hB⟩
    ·obtain ⟨sl, ow, nx, M1, nt, G1⟩ := st1
     have hbH : ∀ W', KeepW B M0 W' → SatH B.n₀ B.w B.M₀ ρ ⟨sl, [], nx, M0, nt, ⟨fun _ => none, none, fun _ => none⟩⟩ W' := fun W' hk =>
      ⟨hk.1, hk.2.1, hk.2.2, fun id e he => (by cases he), fun i j ei ej hi => (by cases hi), fun i e b hi => (by cases hi), fun b o hb => (by cases hb), hlow, fun b o hb => (by cases hb)⟩
     have hbs : Sat B.n₀ B.w B.M₀ ρ ⟨sl, [], nx, M0, nt, ⟨fun _ => none, none, fun _ => none⟩⟩ { a with defers := [] } W := ⟨hbH W (kw h1 hM1'), h1.nt, h1.sl, trivial⟩
     obtain ⟨_, s, q1, q2, q3⟩ := val_sound hC hA hbs
     obtain ⟨j1, j2⟩ := putv_elim q3 h1 q1
     exact ⟨s.den ρ, fun W' hb => .inl ⟨hw', q2 W' (hbH W' (hb (kw h1 hM1')))⟩, fun _ _ _ _ => trivial, ih j2 (by rw [put_G, hG1]; exact hκ) j1 (by rw [put_G, hG1]; exact hG) (hkp.put hwo _) (by rw [putM]; exact hM1')⟩
    ·exact ⟨undef, fun W' hb => .inr ⟨hw', rfl⟩, fun _ _ _ _ => trivial, skip h1 hG1 (by rw [hM1]; exact hle) hB⟩
   | m + 1, hk =>
    obtain ⟨st1, h1, hG1, hM1, hcase⟩ := guard_soundM h hk
    have hM1' : M0.le st1.M := by rw [hM1]; exact hle
    have op : wpOpIn (Fw r) n P ops Q i (fun a' W' => (KeepW B M0 W → KeepW B M0 W') ∧ eag (WR.keep (KeepW B M0)) (Fw r) n P ops Q rest a' W') a W := by
     unfold wpOpIn
     simp only [ho']
     rcases hcase with ⟨hw', hA⟩ | ⟨hw', hB⟩
     ·rw [if_pos hw']
      refine Oper.wpIn_mono ?_ (op_keep (step_sound hC hA h1) hwo hkp)
      rintro a' W' ⟨⟨ρ', st', g1, g2, g3⟩, hkp'⟩
      cases withM_iff g3 with
      | mk hle' hk' => exact ⟨fun _ => kw g1 hle', ih hk' (by rw [g2.2, hG1]; exact hκ) g1 (hG.trans (by rw [← hG1]; exact g2.1)) hkp' hle'⟩
     ·rw [if_neg (by rw [hw']; exact Bool.false_ne_true)]
      exact ⟨fun _ _ => trivial, fun h => h, skip h1 hG1 hM1' hB⟩
    match m with
    | 0 => exact op
    | m + 1 =>
     refine wpOpIn_mono ?_ op
     exact fun a' W' h => h.2
def vc (C : VX) (P : Program) : Code → St → (Ex → St → Prop) → Prop
 | .skip, st, Q => Q .normal st
 | .region id ops draw, st, Q => match draw with
  | false => vcOps C P ops.toList ops.toList st (Q .normal)
  | true => VDraw ops (fun ord => vcOrd C P ops.toList ord st (Q .normal)) (fun ds ord => frzSl st ds fun st => vcOrd C P ops.toList ord st (Q .normal)) (fun ds ord => frzSl st ds fun st => st.withM fun M0 => vcOrdF C P ops.toList M0 ord st (Q .normal)) (VCode P (.region id ops true) st Q)
 | .seq a b, st, Q => vc C P a st fun e st' => match e with
  | .normal => vc C P b st' Q
  | .ret => Q .ret st'
  | .exit i => Q (.exit i) st'
 | .cond c a b, st, Q => match c with
  | .tmp t => match look st.sl t with
   | some (.v (.bool x)) => VIf x (st.litK t true fun st' => vc C P a st' Q) (st.litK t false fun st' => vc C P b st' Q)
   | _ => VStuck 150
  | _ => VStuck 151
 | .block id c, st, Q => vc C P c st fun e st' => match e with
  | .exit j => match Nat.beq j id with
   | true => Q .normal st'
   | false => Q (.exit j) st'
  | .normal => Q .normal st'
  | .ret => Q .ret st'
 | .exit id, st, Q => Q (.exit id) st
 | .ret, st, Q => Q .ret st
 | c, st, Q => VCode P c st Q
theorem post_mono {κ : Yt → Bs → Prop} {G G' : Gh} (hG : G.lq G') {Q : Ex → St → Prop} {fx : Nat → Prop} {tm : Array Value} : ∀ (e : Exit) (a : Act) (W : World), Post κ G' Q fx tm e a W → Post κ G Q fx tm e a W :=
 fun _ _ _ ⟨⟨ex, h1, B, ρ, st, hκ, h2, h3, h4⟩, hk⟩ => ⟨⟨ex, h1, B, ρ, st, hκ, h2, hG.trans h3, h4⟩, hk⟩
theorem vc_sound {C : VX} (hC : VXOK P C) {r : Option Nat} {n : Nat} {κ : Yt → Bs → Prop} (hY : YOK r P κ) {fx : Nat → Prop} {tm : Array Value} : ∀ (c : Code) {Q : Ex → St → Prop} {B : Bs} {ρ : Env} {st : St} {a : Act} {W : World}, vc C P c st Q → RoundOK r st.G.m → κ st.G.Y B → Sat B.n₀ B.w B.M₀ ρ st a W →
  wr fx c → Keep fx tm a → c.wpIn (Fw r) n P (Post κ st.G Q fx tm) a W
 | .skip, Q, B, ρ, st, a, W, hk, _, hκ, h, _, hkp => wpIn_skip ⟨⟨.normal, rfl, B, ρ, st, hκ, h, Gh.lq_refl _, hk⟩, hkp⟩
 | .region id ops draw, Q, B, ρ, st, a, W, hk, hr, hκ, h, hw, hkp => by
  cases draw with
  | false =>
   simp only [vc] at hk
   refine wpIn_region_list ?_
   exact vcOps_sound hC hY (G := st.G) (k := Q .normal) (fun a W hK hkp => ⟨⟨.normal, rfl, hK⟩, hkp⟩) _ hk hκ h (Gh.lq_refl _) hw hkp
  | true =>
   simp only [vc] at hk
   rcases hk with ⟨ord, tab, hok, hk⟩ | ⟨ds, ord, tab, hok, hk⟩ | ⟨ds, ord, tab, hok, hk⟩ | hk
   rotate_left 3
   ·repeat (first | refine VIf.tt ?_ | refine VIf.ff ?_)
    exact VCode.run hk r n κ B ρ a W fx tm hY hr hκ h hw hkp
   rotate_left 2
   ·obtain ⟨st1, h1, hG1, hk⟩ := frzSl_sound h hk
    replace hk := withM_iff hk
    refine wpIn_region_eag (R := WR.keep (KeepW B st1.M)) hC.mixed hok ?_ ?_
    ·rintro c a' w' ⟨⟨ex, he, _⟩, _⟩; cases he
    ·rw [← hG1] at hκ ⊢
     exact vcOrdF_sound hC (G := st1.G) (k := Q .normal) (fun a W hK hkp => ⟨⟨.normal, rfl, hK⟩, hkp⟩) hw h1.h.mlow ord hk hκ (h1.grow (W' := { W with drawn := W.drawn + 1 }) (Below.drew (Below.refl _ W)) (M' := st1.M) h1.h.mem (fun _ _ => rfl)) (Gh.lq_refl _) hkp (Mem.le_refl _)
   rotate_left
   ·obtain ⟨st1, h1, hG1, hk⟩ := frzSl_sound h hk
    refine wpIn_region_eag (R := WR.below) hC.mixed hok ?_ ?_
    ·rintro c a' w' ⟨⟨ex, he, _⟩, _⟩; cases he
    ·rw [← hG1] at hκ ⊢
     exact vcOrd_sound hC hY (G := st1.G) (k := Q .normal) (fun a W hK hkp => ⟨⟨.normal, rfl, hK⟩, hkp⟩) hw ord hk hκ (h1.grow (W' := { W with drawn := W.drawn + 1 }) (Below.drew (Below.refl _ W)) (M' := st1.M) h1.h.mem (fun _ _ => rfl)) (Gh.lq_refl _) hkp
   refine wpIn_region_eag (R := WR.below) hC.mixed hok ?_ ?_
   ·rintro c a' w' ⟨⟨ex, he, _⟩, _⟩; cases he
   ·refine vcOrd_sound hC hY (G := st.G) (k := Q .normal) (fun a W hK hkp => ⟨⟨.normal, rfl, hK⟩, hkp⟩) hw ord hk hκ (h.grow (W' := { W with drawn := W.drawn + 1 }) (Below.drew (Below.refl _ W)) (M' := st.M) h.h.mem (fun _ _ => rfl)) (Gh.lq_refl _) hkp
 | .seq x y, Q, B, ρ, st, a, W, hk, hr, hκ, h, hw, hkp => by
  simp only [vc] at hk
  refine wpIn_seq (wpIn_mono (vc_sound hC hY x hk hr hκ h hw.1 hkp) ?_)
  rintro e a' W' ⟨⟨ex, he, B', ρ', st', hκ', h1, h2, h3⟩, hkp'⟩
  cases e with
  | normal =>
   cases he
   exact wpIn_mono (vc_sound hC hY y h3 (hr.le h2.1) hκ' h1 hw.2 hkp') (post_mono h2)
  | ret => cases he; exact ⟨⟨.ret, rfl, B', ρ', st', hκ', h1, h2, h3⟩, hkp'⟩
  | exit i => cases he; exact ⟨⟨.exit i, rfl, B', ρ', st', hκ', h1, h2, h3⟩, hkp'⟩
  | goto => cases he
  | panic => cases he
  | outgrown => cases he
 | .cond c x y, Q, B, ρ, st, a, W, hk, hr, hκ, h, hw, hkp => by
  simp only [vc] at hk
  split at hk
  ·rename_i t
   split at hk
   ·rename_i b hl
    obtain ⟨h1, h2⟩ := hk
    have he : a.eval (.tmp t) = .bool b := (h.ev (x := .tmp t) hl).1
    cases b with
    | true => exact wpIn_cond_true he (vc_sound hC hY x (st := st.lit t true) (litK_iff (h1 rfl)) hr hκ (h.lit hl) hw.1 hkp)
    | false => exact wpIn_cond_false he (vc_sound hC hY y (st := st.lit t false) (litK_iff (h2 rfl)) hr hκ (h.lit hl) hw.2 hkp)
   ·cases hk
  ·cases hk
 | .block id c, Q, B, ρ, st, a, W, hk, hr, hκ, h, hw, hkp => by
  simp only [vc] at hk
  refine wpIn_block (wpIn_mono (vc_sound hC hY c hk hr hκ h hw hkp) ?_)
  rintro e a' W' ⟨⟨ex, he, B', ρ', st', hκ', h1, h2, h3⟩, hkp'⟩
  cases e with
  | normal => cases he; exact ⟨⟨.normal, rfl, B', ρ', st', hκ', h1, h2, h3⟩, hkp'⟩
  | ret => cases he; exact ⟨⟨.ret, rfl, B', ρ', st', hκ', h1, h2, h3⟩, hkp'⟩
  | exit i =>
   cases he
   by_cases hi : i = id
   ·subst hi
    have : Nat.beq i i = true := Nat.beq_refl i
    simp only [this] at h3
    simp only [Exit.inBlock, if_true]
    exact ⟨⟨.normal, rfl, B', ρ', st', hκ', h1, h2, h3⟩, hkp'⟩
   ·have : Nat.beq i id = false := by
     cases hb : Nat.beq i id with
     | false => rfl
     | true => exact absurd (Nat.eq_of_beq_eq_true hb) hi
    simp only [this] at h3
    simp only [Exit.inBlock, hi, if_false]
    exact ⟨⟨.exit i, rfl, B', ρ', st', hκ', h1, h2, h3⟩, hkp'⟩
  | goto => cases he
  | panic => cases he
  | outgrown => cases he
 | .exit id, Q, B, ρ, st, a, W, hk, _, hκ, h, _, hkp => wpIn_exit ⟨⟨.exit id, rfl, B, ρ, st, hκ, h, Gh.lq_refl _, hk⟩, hkp⟩
 | .ret, Q, B, ρ, st, a, W, hk, _, hκ, h, _, hkp => wpIn_ret ⟨⟨.ret, rfl, B, ρ, st, hκ, h, Gh.lq_refl _, hk⟩, hkp⟩
 | .loop c, Q, B, ρ, st, a, W, hk, hr, hκ, h, hw, hkp => VCode.run hk r n κ B ρ a W fx tm hY hr hκ h hw hkp
 | .rangeFunc f ps x y, Q, B, ρ, st, a, W, hk, hr, hκ, h, hw, hkp => VCode.run hk r n κ B ρ a W fx tm hY hr hκ h hw hkp
 | .scope c, Q, B, ρ, st, a, W, hk, hr, hκ, h, hw, hkp => VCode.run hk r n κ B ρ a W fx tm hY hr hκ h hw hkp
 | .label l, Q, B, ρ, st, a, W, hk, hr, hκ, h, hw, hkp => VCode.run hk r n κ B ρ a W fx tm hY hr hκ h hw hkp
 | .goto l, Q, B, ρ, st, a, W, hk, hr, hκ, h, hw, hkp => VCode.run hk r n κ B ρ a W fx tm hY hr hκ h hw hkp
 | .refuse s, Q, B, ρ, st, a, W, hk, hr, hκ, h, hw, hkp => VCode.run hk r n κ B ρ a W fx tm hY hr hκ h hw hkp
end Go.V
