/- The verification-condition framework, part A: symbolic states and what they mean. Program-free. -/
import Derived.WalkKit
import Derived.Below
import Derived.Maps.AppendAt
import Derived.OwnWalkIn
import Derived.RangeFuncNested
import Derived.RangeFuncLeaves
import Derived.RangeFuncCalls
import Derived.OrdersIn
namespace Go.V
open Go Go.RowKit

/-- The immutable part of memory, known exactly. -/
abbrev Mem := Nat → Option Obj
def Mem.cell (M : Mem) (a : Addr) : Option Value :=
  match M a.block with
  | some (.cells c _ _) => if a.spot.isSome then none else c[a.off]?
  | _ => none
def Mem.ok (M : Mem) (W : World) : Prop := ∀ b o, M b = some o → W.heap[b]? = some o
def Mem.le (M M' : Mem) : Prop := ∀ b o, M b = some o → M' b = some o
theorem Mem.le_refl (M : Mem) : M.le M := fun _ _ h => h
theorem Mem.le.trans {A B C : Mem} (h : A.le B) (k : B.le C) : A.le C := fun b o x => k b o (h b o x)
theorem Mem.cell_le {M M' : Mem} (h : M.le M') {a : Addr} {v : Value} (hc : M.cell a = some v) : M'.cell a = some v := by
  unfold Mem.cell at *
  cases hb : M a.block with
  | none => simp [hb] at hc
  | some o => rw [h _ _ hb]; rw [hb] at hc; exact hc
theorem Mem.cell_ok {M : Mem} {W : World} (h : M.ok W) {a : Addr} {v : Value} (hc : M.cell a = some v) : W.cell? a = some v := by
  unfold Mem.cell World.cell? at *
  cases hb : M a.block with
  | none => simp [hb] at hc
  | some o =>
    rw [h _ _ hb]; rw [hb] at hc
    cases o <;> first | exact hc | cases hc

/-- An atom: a plain value, a pointer into a block of one's own, a growing slice of one's own. -/
inductive At where
  | v (x : Value)
  | box (id off : Nat)
  | row (id : Nat)
/-- A symbolic value. -/
inductive SV where
  | v (x : Value)
  | box (id off : Nat)
  | row (id : Nat)
  | clo (f : Nat) (fst cap : List At)
  | tup (l : List At)

abbrev Env := Nat → Value
def blkOf : Value → Nat
  | .pointer (some a) => a.block
  | .slice (some a) _ _ => a.block
  | _ => 0
/-- The block that a value of one's own lies in. -/
def ob : Value → Option Nat
  | .pointer (some a) => some a.block
  | .slice (some a) _ _ => some a.block
  | _ => none
/-- A growing slice's value. -/
def slOf : Value → Value
  | .slice a n c => .slice a n c
  | _ => .slice none 0 0
def At.den (ρ : Env) : At → Value
  | .v x => x
  | .box id off => .pointer (some ⟨blkOf (ρ id), off, none⟩)
  | .row id => slOf (ρ id)
def At.sc (nx : Nat) : At → Prop
  | .v _ => True
  | .box id _ => id < nx
  | .row id => id < nx
def SV.den (ρ : Env) : SV → Value
  | .v x => x
  | .box id off => .pointer (some ⟨blkOf (ρ id), off, none⟩)
  | .row id => slOf (ρ id)
  | .clo f fst cap => .func (.func f) (fst.map (At.den ρ)).toArray (cap.map (At.den ρ)).toArray
  | .tup l => .tuple (l.map (At.den ρ)).toArray
def SV.sc (nx : Nat) : SV → Prop
  | .v _ => True
  | .box id _ => id < nx
  | .row id => id < nx
  | .clo _ fst cap => (∀ a ∈ fst, a.sc nx) ∧ ∀ a ∈ cap, a.sc nx
  | .tup l => ∀ a ∈ l, a.sc nx
def Agree (nx : Nat) (ρ ρ' : Env) : Prop := ∀ i, i < nx → ρ' i = ρ i
theorem Agree.refl (nx : Nat) (ρ : Env) : Agree nx ρ ρ := fun _ _ => rfl
theorem Agree.trans {n m : Nat} {a b c : Env} (h : Agree n a b) (k : Agree m b c) (hn : n ≤ m) : Agree n a c := fun i hi => (k i (Nat.lt_of_lt_of_le hi hn)).trans (h i hi)
theorem At.den_agree {nx : Nat} {ρ ρ' : Env} (h : Agree nx ρ ρ') {a : At} (hs : a.sc nx) : a.den ρ' = a.den ρ := by
  cases a with
  | v x => rfl
  | box id off => simp only [At.sc] at hs; simp [At.den, h _ hs]
  | row id => simp only [At.sc] at hs; simp [At.den, h _ hs]
theorem At.den_agree_list {nx : Nat} {ρ ρ' : Env} (h : Agree nx ρ ρ') {l : List At} (hs : ∀ a ∈ l, a.sc nx) : l.map (At.den ρ') = l.map (At.den ρ) :=
  List.map_congr_left fun a ha => At.den_agree h (hs a ha)
theorem SV.den_agree {nx : Nat} {ρ ρ' : Env} (h : Agree nx ρ ρ') {s : SV} (hs : s.sc nx) : s.den ρ' = s.den ρ := by
  cases s with
  | v x => rfl
  | box id off => simp only [SV.sc] at hs; simp [SV.den, h _ hs]
  | row id => simp only [SV.sc] at hs; simp [SV.den, h _ hs]
  | clo f fst cap => simp only [SV.sc] at hs; simp [SV.den, At.den_agree_list h hs.1, At.den_agree_list h hs.2]
  | tup l => simp only [SV.sc] at hs; simp [SV.den, At.den_agree_list h hs]
theorem At.sc_mono {n m : Nat} (hnm : n ≤ m) {a : At} (h : a.sc n) : a.sc m := by
  cases a <;> simp only [At.sc] at * <;> omega
theorem SV.sc_mono {n m : Nat} (hnm : n ≤ m) {s : SV} (h : s.sc n) : s.sc m := by
  cases s with
  | v x => trivial
  | box id off => simp only [SV.sc] at *; omega
  | row id => simp only [SV.sc] at *; omega
  | clo f fst cap => exact ⟨fun a ha => At.sc_mono hnm (h.1 a ha), fun a ha => At.sc_mono hnm (h.2 a ha)⟩
  | tup l => exact fun a ha => At.sc_mono hnm (h a ha)

/-- What is owned: a variable's cells; a growing slice's elements. -/
inductive OE where
  | box (t : TypeId) (cs : List SV)
  | row (E sz n : Nat) (xs : List Value)
def OE.sc (nx : Nat) : OE → Prop
  | .box _ cs => ∀ s ∈ cs, s.sc nx
  | .row .. => True
theorem OE.sc_mono {n m : Nat} (hnm : n ≤ m) {e : OE} (h : e.sc n) : e.sc m := by
  cases e with
  | box t cs => exact fun s hs => SV.sc_mono hnm (h s hs)
  | row => trivial

/-- Looking up: the youngest entry counts. -/
def look {α : Type} : List (Nat × α) → Nat → Option α
  | [], _ => none
  | (k, x) :: r, d => bif Nat.beq d k then some x else look r d
theorem look_cons {α : Type} (k : Nat) (x : α) (r : List (Nat × α)) (d : Nat) : look ((k, x) :: r) d = if d = k then some x else look r d := by
  show (bif Nat.beq d k then some x else look r d) = _
  by_cases h : d = k
  · simp [h]
  · have : Nat.beq d k = false := by
      cases hb : Nat.beq d k with
      | false => rfl
      | true => exact absurd (Nat.eq_of_beq_eq_true hb) h
    simp [this, h]

/-- Ghosts: what is pinned; what an iterator has yet to yield, and to which loop. -/
structure Gh where
  m : Mem
  Y : Option (Nat × List (List Value))
  f : Mem
def Gh.le (G G' : Gh) : Prop := (G.m.le G'.m ∧ G'.f = G.f) ∧ G'.Y = G.Y
/-- The same, whatever was yielded. -/
def Gh.lq (G G' : Gh) : Prop := G.m.le G'.m ∧ G'.f = G.f
theorem Gh.lq_refl (G : Gh) : G.lq G := ⟨Mem.le_refl _, rfl⟩
theorem Gh.lq.trans {A B C : Gh} (h : A.lq B) (k : B.lq C) : A.lq C := ⟨h.1.trans k.1, k.2.trans h.2⟩
theorem Gh.le_refl (G : Gh) : G.le G := ⟨⟨Mem.le_refl _, rfl⟩, rfl⟩
theorem Gh.le.trans {A B C : Gh} (h : A.le B) (k : B.le C) : A.le C := ⟨Gh.lq.trans (A := A) (B := B) h.1 k.1, k.2.trans h.2⟩
structure St where
  sl : List (Nat × SV)
  ow : List (Nat × Option OE)
  nx : Nat
  M : Mem
  nt : Nat
  G : Gh
def St.own (st : St) (id : Nat) : Option OE :=
  match look st.ow id with
  | some (some e) => some e
  | _ => none

def OwnOK (n₀ : Nat) (ρ : Env) (W : World) (id : Nat) : OE → Prop
  | .box t cs => ∃ B, ρ id = .pointer (some ⟨B, 0, none⟩) ∧ n₀ ≤ B ∧ W.heap[B]? = some (.cells (cs.map (SV.den ρ)).toArray t (0, 0))
  | .row E sz n xs => W.ownsRow n₀ E sz (ρ id) n xs ∧ (∀ x ∈ xs, x.oneCell' = true)

/-- The heap meets the symbolic state. -/
structure SatH (n₀ : Nat) (w : World) (M₀ : Mem) (ρ : Env) (st : St) (W : World) : Prop where
  below : Below n₀ w W
  size : n₀ ≤ W.heap.size
  mem : st.M.ok W
  own : ∀ id e, st.own id = some e → id < st.nx ∧ e.sc st.nx ∧ OwnOK n₀ ρ W id e
  sep : ∀ i j ei ej, st.own i = some ei → st.own j = some ej → i ≠ j → ∀ b, ob (ρ i) = some b → ob (ρ j) ≠ some b
  msep : ∀ i e b, st.own i = some e → ob (ρ i) = some b → st.M b = none
  pin : ∀ b o, st.G.m b = some o → o.isCells = false ∧ W.heap[b]? = some o ∧ st.M b = none
  mlow : ∀ b, b < n₀ → st.M b = M₀ b
  fpin : ∀ b o, st.G.f b = some o → W.heap[b]? = some o ∧ ∀ i e, st.own i = some e → ob (ρ i) ≠ some b

/-- The marks that a loop over an iterator leaves among the deferred calls: their blocks are pinned. -/
def Marks (n₀ : Nat) (G : Mem) : List Deferred → Prop
  | [] => True
  | d :: ds => (∃ D, d = { target := .collected D, args := #[] } ∧ G D = some (.deferred (some [])) ∧ n₀ ≤ D ∧ ∀ d' ∈ ds, d'.target = .collected D → False) ∧ Marks n₀ G ds

/-- The frame and the heap meet the symbolic state. -/
structure Sat (n₀ : Nat) (w : World) (M₀ : Mem) (ρ : Env) (st : St) (a : Act) (W : World) : Prop where
  h : SatH n₀ w M₀ ρ st W
  nt : a.tmps.size = st.nt
  sl : ∀ d s, look st.sl d = some s → d < st.nt ∧ s.sc st.nx ∧ a.tmps[d]? = some (s.den ρ)
  marks : Marks n₀ st.G.m a.defers

theorem OwnOK.lt {n₀ : Nat} {ρ : Env} {W : World} {id : Nat} {e : OE} (h : OwnOK n₀ ρ W id e) : ∀ b, ob (ρ id) = some b → n₀ ≤ b ∧ b < W.heap.size ∧ ∃ c t fr, W.heap[b]? = some (.cells c t fr) := by
  intro b hb
  cases e with
  | box t cs =>
    obtain ⟨B, hr, hn, hh⟩ := h
    simp [hr, ob] at hb
    subst hb
    exact ⟨hn, (Array.getElem?_eq_some_iff.1 hh).1, _, _, _, hh⟩
  | row E sz n xs =>
    obtain ⟨⟨_, h2⟩, _⟩ := h
    rcases h2 with ⟨hv, _⟩ | ⟨g, cap, cur, hv, hg, hh, _⟩
    · simp [hv, ob] at hb
    · simp [hv, ob] at hb
      subst hb
      exact ⟨hg, (Array.getElem?_eq_some_iff.1 hh).1, _, _, _, hh⟩

/-- What is owned stays so in a world in which its block is as it was, under an environment that says the same. -/
theorem OwnOK.keep {n₀ nx : Nat} {ρ ρ' : Env} {W W' : World} {id : Nat} {e : OE} (h : OwnOK n₀ ρ W id e) (hag : Agree nx ρ ρ') (hid : id < nx) (hsc : e.sc nx)
    (hk : ∀ b, ob (ρ id) = some b → W'.heap[b]? = W.heap[b]?) : OwnOK n₀ ρ' W' id e := by
  have hr := hag id hid
  cases e with
  | box t cs =>
    obtain ⟨B, h1, hn, hh⟩ := h
    refine ⟨B, hr.trans h1, hn, ?_⟩
    rw [hk B (by simp [h1, ob]), hh]
    have : cs.map (SV.den ρ') = cs.map (SV.den ρ) := List.map_congr_left fun s hs => SV.den_agree hag (hsc s hs)
    rw [this]
  | row E sz n xs =>
    obtain ⟨⟨h1, h2⟩, hc⟩ := h
    refine ⟨⟨h1, ?_⟩, hc⟩
    rw [hr]
    rcases h2 with h2 | ⟨g, cap, cur, hv, hg, hh, r⟩
    · exact .inl h2
    · exact .inr ⟨g, cap, cur, hv, hg, (hk g (by simp [hv, ob])).trans hh, r⟩

/-- What a callee, or a new block, leaves: nothing that was there has turned; more may be known to be immutable. -/
theorem SatH.grow {n₀ : Nat} {w : World} {M₀ : Mem} {ρ : Env} {st : St} {W W' : World} (h : SatH n₀ w M₀ ρ st W) (hb : Below W.heap.size W W') {M' : Mem} (hM : M'.ok W')
    (hnew : ∀ b, b < W.heap.size → M' b = st.M b) : SatH n₀ w M₀ ρ { st with M := M' } W' where
  below := h.below.trans (hb.mono h.size)
  size := Nat.le_trans h.size hb.size
  mem := hM
  own := fun id e he => by
    obtain ⟨h1, h2, h3⟩ := h.own id e he
    exact ⟨h1, h2, h3.keep (Agree.refl st.nx ρ) h1 h2 fun b hbb => hb.block b (h3.lt b hbb).2.1⟩
  sep := h.sep
  msep := fun i e b hi hbb => by
    have := (h.own i e hi).2.2.lt b hbb
    show M' b = none
    rw [hnew b this.2.1]
    exact h.msep i e b hi hbb
  pin := fun b o hb' => by
    obtain ⟨h1, h2, h3⟩ := h.pin b o hb'
    have hlt := (Array.getElem?_eq_some_iff.1 h2).1
    exact ⟨h1, (hb.block b hlt).trans h2, (hnew b hlt).trans h3⟩
  mlow := fun b hb' => (hnew b (Nat.lt_of_lt_of_le hb' h.size)).trans (h.mlow b hb')
  fpin := fun b o hb' => by
    obtain ⟨h2, h3⟩ := h.fpin b o hb'
    have hlt := (Array.getElem?_eq_some_iff.1 h2).1
    exact ⟨(hb.block b hlt).trans h2, h3⟩

theorem Sat.grow {n₀ : Nat} {w : World} {M₀ : Mem} {ρ : Env} {st : St} {a : Act} {W W' : World} (h : Sat n₀ w M₀ ρ st a W) (hb : Below W.heap.size W W') {M' : Mem} (hM : M'.ok W')
    (hnew : ∀ b, b < W.heap.size → M' b = st.M b) : Sat n₀ w M₀ ρ { st with M := M' } a W' :=
  ⟨h.h.grow hb hM hnew, h.nt, h.sl, h.marks⟩

theorem SatH.same {n₀ : Nat} {w : World} {M₀ : Mem} {ρ : Env} {st st' : St} {W : World} (h : SatH n₀ w M₀ ρ st W) (h1 : st'.ow = st.ow) (h2 : st'.nx = st.nx) (h3 : st'.M = st.M) (h4 : st'.G = st.G) : SatH n₀ w M₀ ρ st' W := by
  cases st; cases st'; simp only at h1 h2 h3 h4; subst h1; subst h2; subst h3; subst h4
  exact ⟨h.below, h.size, h.mem, h.own, h.sep, h.msep, h.pin, h.mlow, h.fpin⟩
/-- A temporary is written. -/
def St.put (st : St) (d : Option Tmp) (s : SV) : St :=
  match d with
  | some d => { st with sl := (d, s) :: st.sl }
  | none => st
theorem Sat.put {n₀ : Nat} {w : World} {M₀ : Mem} {ρ : Env} {st : St} {a : Act} {W : World} (h : Sat n₀ w M₀ ρ st a W) (d : Option Tmp) (s : SV) (hs : s.sc st.nx)
    (hd : ∀ t, d = some t → t < st.nt) : Sat n₀ w M₀ ρ (st.put d s) (a.put d (s.den ρ)) W := by
  cases d with
  | none => exact h
  | some d =>
    refine ⟨h.h.same rfl rfl rfl rfl, by simp [Act.put, St.put, h.nt], ?_, h.marks⟩
    intro e u hu
    simp only [St.put, look_cons] at hu
    have hdn := hd d rfl
    split at hu
    · rename_i he
      obtain rfl := Option.some.inj hu
      subst he
      refine ⟨hdn, hs, ?_⟩
      simp only [Act.put]
      rw [Array.getElem?_setIfInBounds_self_of_lt (by rw [h.nt]; exact hdn)]
    · rename_i he
      obtain ⟨h1, h2, h3⟩ := h.sl e u hu
      refine ⟨h1, h2, ?_⟩
      simp only [Act.put]
      rw [Array.getElem?_setIfInBounds_ne (fun x => he x.symm)]
      exact h3
end Go.V
