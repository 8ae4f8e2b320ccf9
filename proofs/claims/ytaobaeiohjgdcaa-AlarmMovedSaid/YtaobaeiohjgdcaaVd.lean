/- The verification-condition framework, part D: loads, stores, new variables. -/
import Derived.Test.YtaobaeiohjgdcaaVc
import Derived.Laws.CopyRow
namespace Go.V
open Go Go.RowKit
variable {P : Program}

/-- The walk's fence: everything is allowed; r: the loop over an iterator in whose round it is, if it is in one. -/
def Fw (r : Option Nat) : Fence := { Fence.wide with round := r }
theorem Fw_fn (r : Option Nat) (f : Nat) : (Fw r).fn f := trivial

/-- An operation that yields a value. -/
theorem op_val {r : Option Nat} {n : Nat} {o : Oper} {a : Act} {W W' : World} {v : Value} {K : Act → World → Prop} {Q : Exit → Act → World → Prop}
    (hd : ∀ c, o.op ≠ .defer c) (hrun : (execOp a.eval o).run P W = .ok (.value v) W') (hk : K (a.put o.dst v) W') : o.wpIn (Fw r) n P a W K Q := by
  refine ⟨fun _ _ => trivial, ?_⟩
  rw [Oper.semAt_plain _ _ _ hd, hrun]
  exact hk
theorem op_skip {r : Option Nat} {n : Nat} {o : Oper} {a : Act} {W W' : World} {K : Act → World → Prop} {Q : Exit → Act → World → Prop}
    (hd : ∀ c, o.op ≠ .defer c) (hrun : (execOp a.eval o).run P W = .ok .skip W') (hk : K (a.put o.dst undef) W') : o.wpIn (Fw r) n P a W K Q := by
  refine ⟨fun _ _ => trivial, ?_⟩
  rw [Oper.semAt_plain _ _ _ hd, hrun]
  exact hk

theorem Addr.add_none (B off j : Nat) : (⟨B, off, none⟩ : Addr).add j = ⟨B, off + j, none⟩ := by
  unfold Go.Addr.add; split <;> simp_all

/-- A temporary is written, if there is such a one. -/
def St.putv (st : St) (d : Option Tmp) (s : SV) (k : St → Prop) : Prop :=
  match d with
  | none => k st
  | some d => match st with
    | ⟨sl, ow, nx, M, nt, G⟩ => match Nat.blt d nt with
      | true => k ⟨(d, s) :: sl, ow, nx, M, nt, G⟩
      | false => VStuck 2
theorem putv_elim {n₀ : Nat} {w : World} {M₀ : Mem} {ρ : Env} {st : St} {a : Act} {W : World} {d : Option Tmp} {s : SV} {k : St → Prop} (h : st.putv d s k) (hs : Sat n₀ w M₀ ρ st a W) (hsc : s.sc st.nx) :
    Sat n₀ w M₀ ρ (st.put d s) (a.put d (s.den ρ)) W ∧ k (st.put d s) := by
  unfold St.putv at h
  cases d with
  | none => exact ⟨hs.put none s hsc (fun t ht => by cases ht), h⟩
  | some d =>
    cases st with
    | mk sl ow nx M nt G =>
    simp only at h
    cases hb : Nat.blt d nt with
    | true =>
      simp only [hb] at h
      exact ⟨hs.put (some d) s hsc (fun t ht => by cases ht; exact Nat.le_of_ble_eq_true hb), h⟩
    | false => simp only [hb] at h; cases h

def ldBox (i : TI) (cs : List SV) (off : Nat) (k : SV → Prop) : Prop :=
  match i.k.agg with
  | true => match vals ((cs.drop off).take i.zero.length) with
    | some l => match Nat.beq l.length i.zero.length with
      | true => k (.v (.agg l.toArray))
      | false => VStuck 21
    | none => VStuck 22
  | false => match cs[off]? with
    | some s => k s
    | none => VStuck 23
def ldRow (i : TI) (xs : List Value) (off : Nat) (k : SV → Prop) : Prop :=
  match i.k.agg with
  | true => VCells xs off i.zero.length fun l => k (.v (.agg l.toArray))
  | false => VCells xs off 1 fun l => ∃ x, l = [x] ∧ k (.v x)
def ldMem (i : TI) (M : Mem) (ad : Addr) (k : SV → Prop) : Prop :=
  match i.k.agg with
  | true => VReads M ad i.zero.length fun l => k (.v (.agg l.toArray))
  | false => VRead M ad fun x => k (.v x)
def ld (te : List (Nat × TI)) (st : St) (t : TypeId) (p : SV) (k : SV → Prop) : Prop :=
  match look te t with
  | none => VStuck 20
  | some i => match p with
    | .box id off => match st.own id with
      | some (.box _ cs) => ldBox i cs off k
      | some (.row _ _ _ xs) => ldRow i xs off k
      | none => VStuck 24
    | .v (.pointer (some ad)) => match st with | ⟨_, _, _, M, _, _⟩ => ldMem i M ad k
    | _ => VStuck 25

theorem ld_agg {t : TypeId} {i : TI} (h : TyOK P t i) (hk : i.k.agg = true) {ad : Addr} {l : List Value} (hl : l.length = i.zero.length) {W : World} (hc : ∀ j v, l[j]? = some v → W.cell? (ad.add j) = some v) :
    (Instr.loadAt t (.pointer (some ad))).run P W = .ok (.agg l.toArray) W := by
  have h1 := h.isAgg W
  rw [hk] at h1
  have h3 := run_loadCells_list (P := P) W ad l hc
  rw [hl] at h3
  simp [Instr.loadAt, Instr.sureAddr, loadVar, h1, h.sizeOf, h3]
theorem ld_sc {t : TypeId} {i : TI} (h : TyOK P t i) (hk : i.k.agg = false) {ad : Addr} {x : Value} {W : World} (hc : W.cell? ad = some x) :
    (Instr.loadAt t (.pointer (some ad))).run P W = .ok x W := by
  have h1 := h.isAgg W
  rw [hk] at h1
  simp [Instr.loadAt, Instr.sureAddr, loadVar, h1, load, Sem.run, hc]

/-- The cells of an own block. -/
theorem box_cell {n₀ : Nat} {w : World} {M₀ : Mem} {ρ : Env} {st : St} {W : World} (h : SatH n₀ w M₀ ρ st W) {id : Nat} {t : TypeId} {cs : List SV} (hid : st.own id = some (.box t cs)) (j : Nat) :
    W.cell? ⟨blkOf (ρ id), j, none⟩ = (cs[j]?).map (SV.den ρ) := by
  obtain ⟨_, _, B, hr, _, hh⟩ := h.own id _ hid
  simp [hr, blkOf, World.cell?, hh]
theorem row_cell {n₀ : Nat} {w : World} {M₀ : Mem} {ρ : Env} {st : St} {W : World} (h : SatH n₀ w M₀ ρ st W) {id E sz n : Nat} {xs : List Value} (hid : st.own id = some (.row E sz n xs)) {j : Nat} {v : Value} (hv : xs[j]? = some v) :
    W.cell? ⟨blkOf (ρ id), j, none⟩ = some v := by
  obtain ⟨_, _, ho, _⟩ := h.own id _ hid
  rcases ho.2 with ⟨hn, h0⟩ | ⟨g, cap, cur, hg, _, hh, _, _, _, ht⟩
  · have := ho.1; subst h0; simp at this; subst this; simp at hv
  · have h3 := ho.cells (g := g) (by simp [hg, Value.ownBlock]) j v hv
    rw [Addr.add_none] at h3
    simpa [hg, blkOf] using h3

theorem ld_sound {te : List (Nat × TI)} (hte : TEOK P te) {n₀ : Nat} {w : World} {M₀ : Mem} {ρ : Env} {st : St} {W0 : World} (h0 : SatH n₀ w M₀ ρ st W0) {t : TypeId} {p : SV} {k : SV → Prop} (hp : p.sc st.nx)
    (hk : ld te st t p k) : ∃ s, s.sc st.nx ∧ (∀ W, SatH n₀ w M₀ ρ st W → (Instr.loadAt t (p.den ρ)).run P W = .ok (s.den ρ) W) ∧ k s := by
  unfold ld at hk
  cases hi : look te t with
  | none => simp only [hi] at hk; cases hk
  | some i =>
    simp only [hi] at hk
    have hT := hte t i hi
    cases p with
    | box id off =>
      simp only at hk
      cases hid : st.own id with
      | none => simp only [hid] at hk; cases hk
      | some e =>
        simp only [hid] at hk
        cases e with
        | box t' cs =>
          simp only at hk
          unfold ldBox at hk
          cases hag : i.k.agg with
          | true =>
            simp only [hag] at hk
            cases hv : vals ((cs.drop off).take i.zero.length) with
            | none => simp only [hv] at hk; cases hk
            | some l =>
              simp only [hv] at hk
              cases hb : Nat.beq l.length i.zero.length with
              | false => simp only [hb] at hk; cases hk
              | true =>
                simp only [hb] at hk
                refine ⟨.v (.agg l.toArray), trivial, fun W h => ?_, hk⟩
                have hd := vals_den (ρ := ρ) hv
                refine ld_agg hT hag (Nat.eq_of_beq_eq_true hb) (fun j v hj => ?_)
                rw [Addr.add_none, box_cell h hid]
                rw [← hd] at hj
                simp only [List.getElem?_map, List.getElem?_take, List.getElem?_drop] at hj
                split at hj
                · exact hj
                · cases hj
          | false =>
            simp only [hag] at hk
            cases hc : cs[off]? with
            | none => simp only [hc] at hk; cases hk
            | some s =>
              simp only [hc] at hk
              refine ⟨s, (h0.own id _ hid).2.1 s (List.mem_of_getElem? hc), fun W h => ?_, hk⟩
              exact ld_sc hT hag (by rw [box_cell h hid, hc]; rfl)
        | row E sz n xs =>
          simp only at hk
          unfold ldRow at hk
          cases hag : i.k.agg with
          | true =>
            simp only [hag] at hk
            obtain ⟨l, hl, hc, hk⟩ := hk
            refine ⟨.v (.agg l.toArray), trivial, fun W h => ?_, hk⟩
            exact ld_agg hT hag hl (fun j v hj => by rw [Addr.add_none]; exact row_cell h hid (hc j v hj))
          | false =>
            simp only [hag] at hk
            obtain ⟨l, hl, hc, x, rfl, hk⟩ := hk
            refine ⟨.v x, trivial, fun W h => ?_, hk⟩
            have h0 := hc 0 x rfl
            exact ld_sc hT hag (row_cell h hid h0)
    | v x =>
      split at hk
      · rename_i id off heq; cases heq
      · rename_i ad heq
        cases heq
        replace hk : ldMem i st.M ad k := by cases st; exact hk
        unfold ldMem at hk
        cases hag : i.k.agg with
        | true =>
          simp only [hag] at hk
          obtain ⟨l, hl, hc, hk⟩ := hk
          exact ⟨.v (.agg l.toArray), trivial, fun W h => ld_agg hT hag hl (fun j v hj => Mem.cell_ok h.mem (hc j v hj)), hk⟩
        | false =>
          simp only [hag] at hk
          obtain ⟨x, hc, hk⟩ := hk
          exact ⟨.v x, trivial, fun W h => ld_sc hT hag (Mem.cell_ok h.mem hc), hk⟩
      · cases hk
    | row id => simp only at hk; cases hk
    | clo f x y => simp only at hk; cases hk
    | tup l => simp only at hk; cases hk
end Go.V
